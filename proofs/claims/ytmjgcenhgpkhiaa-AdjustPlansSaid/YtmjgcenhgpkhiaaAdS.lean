/- The law's lists as the document's answer has them. -/
import Derived.Test.YtmjgcenhgpkhiaaAdR
namespace Go.Proofs.Ytmjgcenhgpkhiaa
open Go.RowKit Go.Sort Go.Shelf
set_option linter.unusedVariables false
set_option linter.unusedSimpArgs false

theorem infoRl : (Try.prog.info? 53).map (fun i => (i.zero, i.size, i.bytes)) = some (some (.agg #[.int .i64 0, .int .i64 0, .int .i64 0, .int .i64 0]), 4, 32) := by kernel_rfl
theorem infoRc : (Try.prog.info? 39).map (fun i => (i.zero, i.size, i.bytes)) = some (some (.agg #[.int .i64 0, .int .i64 0, .int .i64 0, .int .i64 0, .int .i64 0]), 5, 40) := by kernel_rfl
def liveEnd (w : World) (l : List Lv) (e : Ending) (w' : World) : Prop := ∃ a cap, e = .returned (.slice a l.length cap) ∧ SlAt w' 4 encL a cap l ∧ Below w.heap.size w w'
set_option maxHeartbeats 4000000 in
set_option maxRecDepth 100000 in
theorem live_ok (a : Option Addr) (cap : Nat) (l : List Lv) (w : World) (h : SlG w 4 encL a cap l) (hl : l.length ≤ 1000) :
    Calls Try.prog 9 #[.slice a l.length cap] w (liveEnd w l) := by
  obtain ⟨i0, hi, hz0, hz1, hz2⟩ := info_parts infoRl
  have H := Lib.hid h
  have HB0 : Hid (Below w.heap.size w w) := Below.refl _ _
  clear h
  go_enter Try.func9, Try.ntmps9
  go_wp2_with fail
  go_loopw [3, 4] (fun v i wr => ∃ j : Nat, j ≤ l.length ∧ i = .int .i64 j ∧ Hid (wr.ownsRow w.heap.size 53 4 v (l.take j).length (cellsL encL (l.take j))) ∧ Hid (Below w.heap.size w wr)) (fun _ i _ => l.length - (intOf i).toNat)
  case atStart => exact ⟨0, by omega, rfl, (show w.ownsRow _ _ _ _ _ _ from World.ownsRow_nil _ _ _ _), HB0⟩
  case round =>
    obtain ⟨j, hj, rfl, HO, HB⟩ := hrel
    by_cases hlt : j < l.length
    · have hx := List.getElem?_eq_getElem hlt
      obtain ⟨x, hy⟩ : ∃ x, l[j] = x := ⟨_, rfl⟩
      rw [hy] at hx
      have HSU : Hid (l.take (j + 1) = l.take j ++ [x]) := by show _ = _; rw [List.take_succ_eq_append_getElem hlt, hy]
      have hS := H.out.after HB.out
      rcases hS.sh with rfl | ⟨b, o, rfl, hbl⟩
      · exact absurd hlt (by simp)
      obtain ⟨xn, xd, xc, xa⟩ := x
      have p0 : wr.cell? ⟨b, o + j * 4, none⟩ = some (.int .i64 xn) := RecsAt.cell hS.recs rfl hlt hx (j := 0) rfl
      have p1 : wr.cell? ⟨b, o + j * 4 + 1, none⟩ = some (.int .i64 xd) := RecsAt.cell hS.recs rfl hlt hx (j := 1) rfl
      have p2 : wr.cell? ⟨b, o + j * 4 + 2, none⟩ = some (.int .i64 xc) := RecsAt.cell hS.recs rfl hlt hx (j := 2) rfl
      have p3 : wr.cell? ⟨b, o + j * 4 + 3, none⟩ = some (.int .i64 xa) := RecsAt.cell hS.recs rfl hlt hx (j := 3) rfl
      have HC : Hid (∀ W, Below w.heap.size w W → W.cell? ⟨b, o + j * 4, none⟩ = some (.int .i64 xn) ∧ W.cell? ⟨b, o + j * 4 + 1, none⟩ = some (.int .i64 xd) ∧ W.cell? ⟨b, o + j * 4 + 2, none⟩ = some (.int .i64 xc) ∧ W.cell? ⟨b, o + j * 4 + 3, none⟩ = some (.int .i64 xa)) := fun W hW => ⟨RecsAt.cell (H.out.after hW).recs rfl hlt hx (j := 0) rfl, RecsAt.cell (H.out.after hW).recs rfl hlt hx (j := 1) rfl, RecsAt.cell (H.out.after hW).recs rfl hlt hx (j := 2) rfl, RecsAt.cell (H.out.after hW).recs rfl hlt hx (j := 3) rfl⟩
      have i1 : (0 : Int) ≤ (j : Int) := by omega
      have i2 : (j : Int) < (l.length : Int) := by omega
      have hF1 : (l.take j).length = j := by rw [List.length_take]; omega
      have zb := HB.out.size
      clear hx hy hS
      go_wp2_with fail
      refine wp_region_final (fun W => W.cell? ⟨b, o + j * 4, none⟩ = some (.int .i64 xn) ∧ W.cell? ⟨b, o + j * 4 + 1, none⟩ = some (.int .i64 xd) ∧ W.cell? ⟨b, o + j * 4 + 2, none⟩ = some (.int .i64 xc) ∧ W.cell? ⟨b, o + j * 4 + 3, none⟩ = some (.int .i64 xa)) 24 (by kernel_rfl) ?_
      obtain ⟨wd, hwd⟩ : ∃ wd, wr.drew = wd := ⟨_, rfl⟩
      have hbd : Below wr.heap.size wr wd := by rw [← hwd]; exact (Below.refl _ _).drew
      rw [hwd]
      clear hwd
      have zd := hbd.size
      have hSd : wd.cell? ⟨b, o + j * 4, none⟩ = some (.int .i64 xn) ∧ wd.cell? ⟨b, o + j * 4 + 1, none⟩ = some (.int .i64 xd) ∧ wd.cell? ⟨b, o + j * 4 + 2, none⟩ = some (.int .i64 xc) ∧ wd.cell? ⟨b, o + j * 4 + 3, none⟩ = some (.int .i64 xa) := HC.out wd (HB.out.trans (hbd.mono zb))
      have hba : Below wd.heap.size wd (wd.alloc (.cells #[.int .i64 xn, .int .i64 xd, .int .i64 xc, .int .i64 xa] 53)) := (Below.refl _ _).alloc (Nat.le_refl _) _
      have hBA : Below w.heap.size w (wd.alloc (.cells #[.int .i64 xn, .int .i64 xd, .int .i64 xc, .int .i64 xa] 53)) := HB.out.trans ((hbd.trans (hba.mono zd)).mono zb)
      have hownd := own_after HO.out hbd
      have hSa : (wd.alloc (.cells #[.int .i64 xn, .int .i64 xd, .int .i64 xc, .int .i64 xa] 53)).cell? ⟨b, o + j * 4, none⟩ = some (.int .i64 xn) ∧ (wd.alloc (.cells #[.int .i64 xn, .int .i64 xd, .int .i64 xc, .int .i64 xa] 53)).cell? ⟨b, o + j * 4 + 1, none⟩ = some (.int .i64 xd) ∧ (wd.alloc (.cells #[.int .i64 xn, .int .i64 xd, .int .i64 xc, .int .i64 xa] 53)).cell? ⟨b, o + j * 4 + 2, none⟩ = some (.int .i64 xc) ∧ (wd.alloc (.cells #[.int .i64 xn, .int .i64 xd, .int .i64 xc, .int .i64 xa] 53)).cell? ⟨b, o + j * 4 + 3, none⟩ = some (.int .i64 xa) := HC.out _ hBA
      refine fT_take (i := 0) (v := ?_) rfl (by kernel_rfl) (fun _ _ _ h => h) (by rfl) hSd ?_ ?_
      rotate_left 1
      · intro wS hSw
        obtain ⟨s0, s1, s2, s3⟩ := hSw
        go_simp
        try with_reducible rfl
      try simp only [Act.put, List.setIfInBounds_toArray, List.set_cons_zero, List.set_cons_succ]
      refine fT_take (i := 1) (v := ?_) rfl (by kernel_rfl) (fun _ _ _ h => h) (by rfl) hSd ?_ ?_
      rotate_left 1
      · intro wS hSw
        obtain ⟨s0, s1, s2, s3⟩ := hSw
        go_simp
        try with_reducible rfl
      try simp only [Act.put, List.setIfInBounds_toArray, List.set_cons_zero, List.set_cons_succ]
      refine fT_take (i := 2) (v := ?_) rfl (by kernel_rfl) (fun _ _ _ h => h) (by rfl) hSd ?_ ?_
      rotate_left 1
      · intro wS hSw
        obtain ⟨s0, s1, s2, s3⟩ := hSw
        go_simp
        try with_reducible rfl
      try simp only [Act.put, List.setIfInBounds_toArray, List.set_cons_zero, List.set_cons_succ]
      refine fT_take (i := 3) (v := ?_) rfl (by kernel_rfl) (fun _ _ _ h => h) (by rfl) hSd ?_ ?_
      rotate_left 1
      · intro wS hSw
        obtain ⟨s0, s1, s2, s3⟩ := hSw
        go_simp
        try with_reducible rfl
      try simp only [Act.put, List.setIfInBounds_toArray, List.set_cons_zero, List.set_cons_succ]
      refine fT_take (i := 4) (v := ?_) rfl (by kernel_rfl) (fun _ _ _ h => h) (by rfl) hSd ?_ ?_
      rotate_left 1
      · intro wS hSw
        obtain ⟨s0, s1, s2, s3⟩ := hSw
        go_simp
        try with_reducible rfl
      try simp only [Act.put, List.setIfInBounds_toArray, List.set_cons_zero, List.set_cons_succ]
      refine fT_take (i := 5) (v := ?_) rfl (by kernel_rfl) (fun _ _ _ h => h) (by rfl) hSd ?_ ?_
      rotate_left 1
      · intro wS hSw
        obtain ⟨s0, s1, s2, s3⟩ := hSw
        go_simp
        try with_reducible rfl
      try simp only [Act.put, List.setIfInBounds_toArray, List.set_cons_zero, List.set_cons_succ]
      refine fT_take (i := 6) (v := ?_) rfl (by kernel_rfl) (fun _ _ _ h => h) (by rfl) hSd ?_ ?_
      rotate_left 1
      · intro wS hSw
        obtain ⟨s0, s1, s2, s3⟩ := hSw
        go_simp
        try with_reducible rfl
      try simp only [Act.put, List.setIfInBounds_toArray, List.set_cons_zero, List.set_cons_succ]
      refine fT_take (i := 7) (v := ?_) rfl (by kernel_rfl) (fun _ _ _ h => h) (by rfl) hSd ?_ ?_
      rotate_left 1
      · intro wS hSw
        obtain ⟨s0, s1, s2, s3⟩ := hSw
        go_simp
        try with_reducible rfl
      try simp only [Act.put, List.setIfInBounds_toArray, List.set_cons_zero, List.set_cons_succ]
      refine fT_take (i := 8) (v := ?_) rfl (by kernel_rfl) (fun _ _ _ h => h) (by rfl) hSd ?_ ?_
      rotate_left 1
      · intro wS hSw
        obtain ⟨s0, s1, s2, s3⟩ := hSw
        go_simp
        try with_reducible rfl
      try simp only [Act.put, List.setIfInBounds_toArray, List.set_cons_zero, List.set_cons_succ]
      refine fT_take (i := 9) (v := ?_) rfl (by kernel_rfl) (fun _ _ _ h => h) (by rfl) hSd ?_ ?_
      rotate_left 1
      · intro wS hSw
        obtain ⟨s0, s1, s2, s3⟩ := hSw
        go_simp
        try with_reducible rfl
      try simp only [Act.put, List.setIfInBounds_toArray, List.set_cons_zero, List.set_cons_succ]
      refine fT_take (i := 10) (v := ?_) rfl (by kernel_rfl) (fun _ _ _ h => h) (by rfl) hSd ?_ ?_
      rotate_left 1
      · intro wS hSw
        obtain ⟨s0, s1, s2, s3⟩ := hSw
        go_simp
        try with_reducible rfl
      try simp only [Act.put, List.setIfInBounds_toArray, List.set_cons_zero, List.set_cons_succ]
      refine fT_take (i := 11) (v := ?_) rfl (by kernel_rfl) (fun _ _ _ h => h) (by rfl) hSd ?_ ?_
      rotate_left 1
      · intro wS hSw
        obtain ⟨s0, s1, s2, s3⟩ := hSw
        go_simp
        try with_reducible rfl
      try simp only [Act.put, List.setIfInBounds_toArray, List.set_cons_zero, List.set_cons_succ]
      refine fT_take (i := 12) (v := ?_) rfl (by kernel_rfl) (fun _ _ _ h => h) (by rfl) hSd ?_ ?_
      rotate_left 1
      · intro wS hSw
        obtain ⟨s0, s1, s2, s3⟩ := hSw
        go_simp
        try with_reducible rfl
      try simp only [Act.put, List.setIfInBounds_toArray, List.set_cons_zero, List.set_cons_succ]
      refine fT_take (i := 13) (v := ?_) rfl (by kernel_rfl) (fun _ _ _ h => h) (by rfl) hSd ?_ ?_
      rotate_left 1
      · intro wS hSw
        obtain ⟨s0, s1, s2, s3⟩ := hSw
        go_simp
        try with_reducible rfl
      try simp only [Act.put, List.setIfInBounds_toArray, List.set_cons_zero, List.set_cons_succ]
      refine fT_take (i := 14) (v := ?_) rfl (by kernel_rfl) (fun _ _ _ h => h) (by rfl) hSd ?_ ?_
      rotate_left 1
      · intro wS hSw
        obtain ⟨s0, s1, s2, s3⟩ := hSw
        go_simp
        try with_reducible rfl
      try simp only [Act.put, List.setIfInBounds_toArray, List.set_cons_zero, List.set_cons_succ]
      refine fT_take (i := 15) (v := ?_) rfl (by kernel_rfl) (fun _ _ _ h => h) (by rfl) hSd ?_ ?_
      rotate_left 1
      · intro wS hSw
        obtain ⟨s0, s1, s2, s3⟩ := hSw
        go_simp
        try with_reducible rfl
      try simp only [Act.put, List.setIfInBounds_toArray, List.set_cons_zero, List.set_cons_succ]
      refine fT_take (i := 16) (v := ?_) rfl (by kernel_rfl) (fun _ _ _ h => h) (by rfl) hSd ?_ ?_
      rotate_left 1
      · intro wS hSw
        obtain ⟨s0, s1, s2, s3⟩ := hSw
        go_simp
        try with_reducible rfl
      try simp only [Act.put, List.setIfInBounds_toArray, List.set_cons_zero, List.set_cons_succ]
      refine fT_take (i := 17) (v := ?_) rfl (by kernel_rfl) (fun _ _ _ h => h) (by rfl) hSd ?_ ?_
      rotate_left 1
      · intro wS hSw
        obtain ⟨s0, s1, s2, s3⟩ := hSw
        go_simp
        try with_reducible rfl
      try simp only [Act.put, List.setIfInBounds_toArray, List.set_cons_zero, List.set_cons_succ]
      refine fT_take (i := 18) (v := ?_) rfl (by kernel_rfl) (fun _ _ _ h => h) (by rfl) hSd ?_ ?_
      rotate_left 1
      · intro wS hSw
        obtain ⟨s0, s1, s2, s3⟩ := hSw
        go_simp
        try with_reducible rfl
      try simp only [Act.put, List.setIfInBounds_toArray, List.set_cons_zero, List.set_cons_succ]
      refine fT_take (i := 19) (v := ?_) rfl (by kernel_rfl) (fun _ _ _ h => h) (by rfl) hSd ?_ ?_
      rotate_left 1
      · intro wS hSw
        obtain ⟨s0, s1, s2, s3⟩ := hSw
        go_simp
        try with_reducible rfl
      try simp only [Act.put, List.setIfInBounds_toArray, List.set_cons_zero, List.set_cons_succ]
      refine fT_take (i := 20) (v := ?_) rfl (by kernel_rfl) (fun _ _ _ h => h) (by rfl) hSd ?_ ?_
      rotate_left 1
      · intro wS hSw
        obtain ⟨s0, s1, s2, s3⟩ := hSw
        go_simp
        try with_reducible rfl
      try simp only [Act.put, List.setIfInBounds_toArray, List.set_cons_zero, List.set_cons_succ]
      refine fT_take (i := 21) (v := ?_) rfl (by kernel_rfl) (fun _ _ _ h => h) (by rfl) hSd ?_ ?_
      rotate_left 1
      · intro wS hSw
        obtain ⟨s0, s1, s2, s3⟩ := hSw
        go_simp
        try with_reducible rfl
      try simp only [Act.put, List.setIfInBounds_toArray, List.set_cons_zero, List.set_cons_succ]
      refine wpAnyF_next (i := 22) rfl (by kernel_rfl) (fun K hK => ?_)
      go_simp
      refine hK.out _ _ (.inr hSa) ?_
      clear hK K
      try simp only [Act.put, List.setIfInBounds_toArray, List.set_cons_zero, List.set_cons_succ]
      refine wpAnyF_next (i := 23) rfl (by kernel_rfl) (fun K hK => ?_)
      refine step_append_lies _ (by rfl) _ _ _ (by rfl) w.heap.size 53 i0 _ 4 32 Try.underlying27 hi hz0 hz1 hz2 rfl (by omega) _ (l.take j).length _ (by rfl) (hownd.alloc _)
            ⟨wd.heap.size, 0, none⟩ 1 1 [.int .i64 xn, .int .i64 xd, .int .i64 xc, .int .i64 xa] (by rfl) (by rfl) (World.news_of_block (cs := #[.int .i64 xn, .int .i64 xd, .int .i64 xc, .int .i64 xa]) (t := 53) (fr := (0, 0)) (heap_alloc_new wd _)) (by simp [Value.oneCell'])
            (by omega) (by unfold maxLen; omega) (by omega) (by simp; omega) (wd.heap.size + 1) (by simp) ?_
      intro g cap' w1 hown1 hgrow hat hgt
      have hB1 : Below w.heap.size w w1 := hBA.grown hgrow hBA.size (fun q e => (own_cells HO.out e).1)
      have hS1 : w1.cell? ⟨b, o + j * 4, none⟩ = some (.int .i64 xn) ∧ w1.cell? ⟨b, o + j * 4 + 1, none⟩ = some (.int .i64 xd) ∧ w1.cell? ⟨b, o + j * 4 + 2, none⟩ = some (.int .i64 xc) ∧ w1.cell? ⟨b, o + j * 4 + 3, none⟩ = some (.int .i64 xa) := HC.out _ hB1
      refine hK.out _ _ (.inr hS1) ?_
      clear hK K
      try simp only [Act.put, List.setIfInBounds_toArray, List.set_cons_zero, List.set_cons_succ]
      refine wpAnyF_next (i := 24) rfl (by kernel_rfl) (fun K hK => ?_)
      go_simp
      refine hK.out _ _ (.inl rfl) ?_
      clear hK K
      try simp only [Act.put, List.setIfInBounds_toArray, List.set_cons_zero, List.set_cons_succ]
      refine wpAnyF_done (by kernel_rfl) ?_ _
      have HN2 : Hid (w1.ownsRow w.heap.size 53 4 (.slice (some ⟨g, 0, none⟩) (j + 1) cap') (l.take (j + 1)).length (cellsL encL (l.take (j + 1)))) := by
        show World.ownsRow _ _ _ _ _ _ _
        have h1 := hown1
        rw [hF1] at h1
        rw [HSU.out, List.length_append, cellsL_snoc, hF1]
        exact h1
      have HB1 := Lib.hid hB1
      clear hown1 hgrow hat hB1 hS1 hSa hSd hBA hba hownd hbd HSU
      go_wp2_with fail
      go_roundw
      case rel => exact ⟨j + 1, by omega, by go_num, HN2.out, HB1.out⟩
      case measure => simp [intOf]; omega
    · obtain rfl : j = l.length := by omega
      have hO := HO.out
      rw [List.take_length] at hO
      obtain ⟨ar, cr, rfl, hSl, hXl⟩ := sl_own (enc := encL) (fun _ => rfl) hO
      have HF : Hid (liveEnd w l (.returned (.slice ar l.length cr)) wr) := ⟨ar, cr, rfl, hSl, HB.out⟩
      clear hO HO hSl hXl HB
      go_wp2_with fail
      go_ret
      exact HF.out
def changesEnd (w : World) (l : List Cg) (e : Ending) (w' : World) : Prop := ∃ a cap, e = .returned (.slice a l.length cap) ∧ SlAt w' 5 encG a cap l ∧ Below w.heap.size w w'
set_option maxHeartbeats 4000000 in
set_option maxRecDepth 100000 in
theorem changes_ok (a : Option Addr) (cap : Nat) (l : List Cg) (w : World) (h : SlG w 5 encG a cap l) (hl : l.length ≤ 1000) :
    Calls Try.prog 14 #[.slice a l.length cap] w (changesEnd w l) := by
  obtain ⟨i0, hi, hz0, hz1, hz2⟩ := info_parts infoRc
  have H := Lib.hid h
  have HB0 : Hid (Below w.heap.size w w) := Below.refl _ _
  clear h
  go_enter Try.func14, Try.ntmps14
  go_wp2_with fail
  go_loopw [3, 4] (fun v i wr => ∃ j : Nat, j ≤ l.length ∧ i = .int .i64 j ∧ Hid (wr.ownsRow w.heap.size 39 5 v (l.take j).length (cellsL encG (l.take j))) ∧ Hid (Below w.heap.size w wr)) (fun _ i _ => l.length - (intOf i).toNat)
  case atStart => exact ⟨0, by omega, rfl, (show w.ownsRow _ _ _ _ _ _ from World.ownsRow_nil _ _ _ _), HB0⟩
  case round =>
    obtain ⟨j, hj, rfl, HO, HB⟩ := hrel
    by_cases hlt : j < l.length
    · have hx := List.getElem?_eq_getElem hlt
      obtain ⟨x, hy⟩ : ∃ x, l[j] = x := ⟨_, rfl⟩
      rw [hy] at hx
      have HSU : Hid (l.take (j + 1) = l.take j ++ [x]) := by show _ = _; rw [List.take_succ_eq_append_getElem hlt, hy]
      have hS := H.out.after HB.out
      rcases hS.sh with rfl | ⟨b, o, rfl, hbl⟩
      · exact absurd hlt (by simp)
      obtain ⟨xn, xd, xc, xo, xw⟩ := x
      have p0 : wr.cell? ⟨b, o + j * 5, none⟩ = some (.int .i64 xn) := RecsAt.cell hS.recs rfl hlt hx (j := 0) rfl
      have p1 : wr.cell? ⟨b, o + j * 5 + 1, none⟩ = some (.int .i64 xd) := RecsAt.cell hS.recs rfl hlt hx (j := 1) rfl
      have p2 : wr.cell? ⟨b, o + j * 5 + 2, none⟩ = some (.int .i64 xc) := RecsAt.cell hS.recs rfl hlt hx (j := 2) rfl
      have p3 : wr.cell? ⟨b, o + j * 5 + 3, none⟩ = some (.int .i64 xo) := RecsAt.cell hS.recs rfl hlt hx (j := 3) rfl
      have p4 : wr.cell? ⟨b, o + j * 5 + 4, none⟩ = some (.int .i64 xw) := RecsAt.cell hS.recs rfl hlt hx (j := 4) rfl
      have HC : Hid (∀ W, Below w.heap.size w W → W.cell? ⟨b, o + j * 5, none⟩ = some (.int .i64 xn) ∧ W.cell? ⟨b, o + j * 5 + 1, none⟩ = some (.int .i64 xd) ∧ W.cell? ⟨b, o + j * 5 + 2, none⟩ = some (.int .i64 xc) ∧ W.cell? ⟨b, o + j * 5 + 3, none⟩ = some (.int .i64 xo) ∧ W.cell? ⟨b, o + j * 5 + 4, none⟩ = some (.int .i64 xw)) := fun W hW => ⟨RecsAt.cell (H.out.after hW).recs rfl hlt hx (j := 0) rfl, RecsAt.cell (H.out.after hW).recs rfl hlt hx (j := 1) rfl, RecsAt.cell (H.out.after hW).recs rfl hlt hx (j := 2) rfl, RecsAt.cell (H.out.after hW).recs rfl hlt hx (j := 3) rfl, RecsAt.cell (H.out.after hW).recs rfl hlt hx (j := 4) rfl⟩
      have i1 : (0 : Int) ≤ (j : Int) := by omega
      have i2 : (j : Int) < (l.length : Int) := by omega
      have hF1 : (l.take j).length = j := by rw [List.length_take]; omega
      have zb := HB.out.size
      clear hx hy hS
      go_wp2_with fail
      refine wp_region_final (fun W => W.cell? ⟨b, o + j * 5, none⟩ = some (.int .i64 xn) ∧ W.cell? ⟨b, o + j * 5 + 1, none⟩ = some (.int .i64 xd) ∧ W.cell? ⟨b, o + j * 5 + 2, none⟩ = some (.int .i64 xc) ∧ W.cell? ⟨b, o + j * 5 + 3, none⟩ = some (.int .i64 xo) ∧ W.cell? ⟨b, o + j * 5 + 4, none⟩ = some (.int .i64 xw)) 29 (by kernel_rfl) ?_
      obtain ⟨wd, hwd⟩ : ∃ wd, wr.drew = wd := ⟨_, rfl⟩
      have hbd : Below wr.heap.size wr wd := by rw [← hwd]; exact (Below.refl _ _).drew
      rw [hwd]
      clear hwd
      have zd := hbd.size
      have hSd : wd.cell? ⟨b, o + j * 5, none⟩ = some (.int .i64 xn) ∧ wd.cell? ⟨b, o + j * 5 + 1, none⟩ = some (.int .i64 xd) ∧ wd.cell? ⟨b, o + j * 5 + 2, none⟩ = some (.int .i64 xc) ∧ wd.cell? ⟨b, o + j * 5 + 3, none⟩ = some (.int .i64 xo) ∧ wd.cell? ⟨b, o + j * 5 + 4, none⟩ = some (.int .i64 xw) := HC.out wd (HB.out.trans (hbd.mono zb))
      have hba : Below wd.heap.size wd (wd.alloc (.cells #[.int .i64 xn, .int .i64 xd, .int .i64 xc, .int .i64 xo, .int .i64 xw] 39)) := (Below.refl _ _).alloc (Nat.le_refl _) _
      have hBA : Below w.heap.size w (wd.alloc (.cells #[.int .i64 xn, .int .i64 xd, .int .i64 xc, .int .i64 xo, .int .i64 xw] 39)) := HB.out.trans ((hbd.trans (hba.mono zd)).mono zb)
      have hownd := own_after HO.out hbd
      have hSa : (wd.alloc (.cells #[.int .i64 xn, .int .i64 xd, .int .i64 xc, .int .i64 xo, .int .i64 xw] 39)).cell? ⟨b, o + j * 5, none⟩ = some (.int .i64 xn) ∧ (wd.alloc (.cells #[.int .i64 xn, .int .i64 xd, .int .i64 xc, .int .i64 xo, .int .i64 xw] 39)).cell? ⟨b, o + j * 5 + 1, none⟩ = some (.int .i64 xd) ∧ (wd.alloc (.cells #[.int .i64 xn, .int .i64 xd, .int .i64 xc, .int .i64 xo, .int .i64 xw] 39)).cell? ⟨b, o + j * 5 + 2, none⟩ = some (.int .i64 xc) ∧ (wd.alloc (.cells #[.int .i64 xn, .int .i64 xd, .int .i64 xc, .int .i64 xo, .int .i64 xw] 39)).cell? ⟨b, o + j * 5 + 3, none⟩ = some (.int .i64 xo) ∧ (wd.alloc (.cells #[.int .i64 xn, .int .i64 xd, .int .i64 xc, .int .i64 xo, .int .i64 xw] 39)).cell? ⟨b, o + j * 5 + 4, none⟩ = some (.int .i64 xw) := HC.out _ hBA
      refine fT_take (i := 0) (v := ?_) rfl (by kernel_rfl) (fun _ _ _ h => h) (by rfl) hSd ?_ ?_
      rotate_left 1
      · intro wS hSw
        obtain ⟨s0, s1, s2, s3, s4⟩ := hSw
        go_simp
        try with_reducible rfl
      try simp only [Act.put, List.setIfInBounds_toArray, List.set_cons_zero, List.set_cons_succ]
      refine fT_take (i := 1) (v := ?_) rfl (by kernel_rfl) (fun _ _ _ h => h) (by rfl) hSd ?_ ?_
      rotate_left 1
      · intro wS hSw
        obtain ⟨s0, s1, s2, s3, s4⟩ := hSw
        go_simp
        try with_reducible rfl
      try simp only [Act.put, List.setIfInBounds_toArray, List.set_cons_zero, List.set_cons_succ]
      refine fT_take (i := 2) (v := ?_) rfl (by kernel_rfl) (fun _ _ _ h => h) (by rfl) hSd ?_ ?_
      rotate_left 1
      · intro wS hSw
        obtain ⟨s0, s1, s2, s3, s4⟩ := hSw
        go_simp
        try with_reducible rfl
      try simp only [Act.put, List.setIfInBounds_toArray, List.set_cons_zero, List.set_cons_succ]
      refine fT_take (i := 3) (v := ?_) rfl (by kernel_rfl) (fun _ _ _ h => h) (by rfl) hSd ?_ ?_
      rotate_left 1
      · intro wS hSw
        obtain ⟨s0, s1, s2, s3, s4⟩ := hSw
        go_simp
        try with_reducible rfl
      try simp only [Act.put, List.setIfInBounds_toArray, List.set_cons_zero, List.set_cons_succ]
      refine fT_take (i := 4) (v := ?_) rfl (by kernel_rfl) (fun _ _ _ h => h) (by rfl) hSd ?_ ?_
      rotate_left 1
      · intro wS hSw
        obtain ⟨s0, s1, s2, s3, s4⟩ := hSw
        go_simp
        try with_reducible rfl
      try simp only [Act.put, List.setIfInBounds_toArray, List.set_cons_zero, List.set_cons_succ]
      refine fT_take (i := 5) (v := ?_) rfl (by kernel_rfl) (fun _ _ _ h => h) (by rfl) hSd ?_ ?_
      rotate_left 1
      · intro wS hSw
        obtain ⟨s0, s1, s2, s3, s4⟩ := hSw
        go_simp
        try with_reducible rfl
      try simp only [Act.put, List.setIfInBounds_toArray, List.set_cons_zero, List.set_cons_succ]
      refine fT_take (i := 6) (v := ?_) rfl (by kernel_rfl) (fun _ _ _ h => h) (by rfl) hSd ?_ ?_
      rotate_left 1
      · intro wS hSw
        obtain ⟨s0, s1, s2, s3, s4⟩ := hSw
        go_simp
        try with_reducible rfl
      try simp only [Act.put, List.setIfInBounds_toArray, List.set_cons_zero, List.set_cons_succ]
      refine fT_take (i := 7) (v := ?_) rfl (by kernel_rfl) (fun _ _ _ h => h) (by rfl) hSd ?_ ?_
      rotate_left 1
      · intro wS hSw
        obtain ⟨s0, s1, s2, s3, s4⟩ := hSw
        go_simp
        try with_reducible rfl
      try simp only [Act.put, List.setIfInBounds_toArray, List.set_cons_zero, List.set_cons_succ]
      refine fT_take (i := 8) (v := ?_) rfl (by kernel_rfl) (fun _ _ _ h => h) (by rfl) hSd ?_ ?_
      rotate_left 1
      · intro wS hSw
        obtain ⟨s0, s1, s2, s3, s4⟩ := hSw
        go_simp
        try with_reducible rfl
      try simp only [Act.put, List.setIfInBounds_toArray, List.set_cons_zero, List.set_cons_succ]
      refine fT_take (i := 9) (v := ?_) rfl (by kernel_rfl) (fun _ _ _ h => h) (by rfl) hSd ?_ ?_
      rotate_left 1
      · intro wS hSw
        obtain ⟨s0, s1, s2, s3, s4⟩ := hSw
        go_simp
        try with_reducible rfl
      try simp only [Act.put, List.setIfInBounds_toArray, List.set_cons_zero, List.set_cons_succ]
      refine fT_take (i := 10) (v := ?_) rfl (by kernel_rfl) (fun _ _ _ h => h) (by rfl) hSd ?_ ?_
      rotate_left 1
      · intro wS hSw
        obtain ⟨s0, s1, s2, s3, s4⟩ := hSw
        go_simp
        try with_reducible rfl
      try simp only [Act.put, List.setIfInBounds_toArray, List.set_cons_zero, List.set_cons_succ]
      refine fT_take (i := 11) (v := ?_) rfl (by kernel_rfl) (fun _ _ _ h => h) (by rfl) hSd ?_ ?_
      rotate_left 1
      · intro wS hSw
        obtain ⟨s0, s1, s2, s3, s4⟩ := hSw
        go_simp
        try with_reducible rfl
      try simp only [Act.put, List.setIfInBounds_toArray, List.set_cons_zero, List.set_cons_succ]
      refine fT_take (i := 12) (v := ?_) rfl (by kernel_rfl) (fun _ _ _ h => h) (by rfl) hSd ?_ ?_
      rotate_left 1
      · intro wS hSw
        obtain ⟨s0, s1, s2, s3, s4⟩ := hSw
        go_simp
        try with_reducible rfl
      try simp only [Act.put, List.setIfInBounds_toArray, List.set_cons_zero, List.set_cons_succ]
      refine fT_take (i := 13) (v := ?_) rfl (by kernel_rfl) (fun _ _ _ h => h) (by rfl) hSd ?_ ?_
      rotate_left 1
      · intro wS hSw
        obtain ⟨s0, s1, s2, s3, s4⟩ := hSw
        go_simp
        try with_reducible rfl
      try simp only [Act.put, List.setIfInBounds_toArray, List.set_cons_zero, List.set_cons_succ]
      refine fT_take (i := 14) (v := ?_) rfl (by kernel_rfl) (fun _ _ _ h => h) (by rfl) hSd ?_ ?_
      rotate_left 1
      · intro wS hSw
        obtain ⟨s0, s1, s2, s3, s4⟩ := hSw
        go_simp
        try with_reducible rfl
      try simp only [Act.put, List.setIfInBounds_toArray, List.set_cons_zero, List.set_cons_succ]
      refine fT_take (i := 15) (v := ?_) rfl (by kernel_rfl) (fun _ _ _ h => h) (by rfl) hSd ?_ ?_
      rotate_left 1
      · intro wS hSw
        obtain ⟨s0, s1, s2, s3, s4⟩ := hSw
        go_simp
        try with_reducible rfl
      try simp only [Act.put, List.setIfInBounds_toArray, List.set_cons_zero, List.set_cons_succ]
      refine fT_take (i := 16) (v := ?_) rfl (by kernel_rfl) (fun _ _ _ h => h) (by rfl) hSd ?_ ?_
      rotate_left 1
      · intro wS hSw
        obtain ⟨s0, s1, s2, s3, s4⟩ := hSw
        go_simp
        try with_reducible rfl
      try simp only [Act.put, List.setIfInBounds_toArray, List.set_cons_zero, List.set_cons_succ]
      refine fT_take (i := 17) (v := ?_) rfl (by kernel_rfl) (fun _ _ _ h => h) (by rfl) hSd ?_ ?_
      rotate_left 1
      · intro wS hSw
        obtain ⟨s0, s1, s2, s3, s4⟩ := hSw
        go_simp
        try with_reducible rfl
      try simp only [Act.put, List.setIfInBounds_toArray, List.set_cons_zero, List.set_cons_succ]
      refine fT_take (i := 18) (v := ?_) rfl (by kernel_rfl) (fun _ _ _ h => h) (by rfl) hSd ?_ ?_
      rotate_left 1
      · intro wS hSw
        obtain ⟨s0, s1, s2, s3, s4⟩ := hSw
        go_simp
        try with_reducible rfl
      try simp only [Act.put, List.setIfInBounds_toArray, List.set_cons_zero, List.set_cons_succ]
      refine fT_take (i := 19) (v := ?_) rfl (by kernel_rfl) (fun _ _ _ h => h) (by rfl) hSd ?_ ?_
      rotate_left 1
      · intro wS hSw
        obtain ⟨s0, s1, s2, s3, s4⟩ := hSw
        go_simp
        try with_reducible rfl
      try simp only [Act.put, List.setIfInBounds_toArray, List.set_cons_zero, List.set_cons_succ]
      refine fT_take (i := 20) (v := ?_) rfl (by kernel_rfl) (fun _ _ _ h => h) (by rfl) hSd ?_ ?_
      rotate_left 1
      · intro wS hSw
        obtain ⟨s0, s1, s2, s3, s4⟩ := hSw
        go_simp
        try with_reducible rfl
      try simp only [Act.put, List.setIfInBounds_toArray, List.set_cons_zero, List.set_cons_succ]
      refine fT_take (i := 21) (v := ?_) rfl (by kernel_rfl) (fun _ _ _ h => h) (by rfl) hSd ?_ ?_
      rotate_left 1
      · intro wS hSw
        obtain ⟨s0, s1, s2, s3, s4⟩ := hSw
        go_simp
        try with_reducible rfl
      try simp only [Act.put, List.setIfInBounds_toArray, List.set_cons_zero, List.set_cons_succ]
      refine fT_take (i := 22) (v := ?_) rfl (by kernel_rfl) (fun _ _ _ h => h) (by rfl) hSd ?_ ?_
      rotate_left 1
      · intro wS hSw
        obtain ⟨s0, s1, s2, s3, s4⟩ := hSw
        go_simp
        try with_reducible rfl
      try simp only [Act.put, List.setIfInBounds_toArray, List.set_cons_zero, List.set_cons_succ]
      refine fT_take (i := 23) (v := ?_) rfl (by kernel_rfl) (fun _ _ _ h => h) (by rfl) hSd ?_ ?_
      rotate_left 1
      · intro wS hSw
        obtain ⟨s0, s1, s2, s3, s4⟩ := hSw
        go_simp
        try with_reducible rfl
      try simp only [Act.put, List.setIfInBounds_toArray, List.set_cons_zero, List.set_cons_succ]
      refine fT_take (i := 24) (v := ?_) rfl (by kernel_rfl) (fun _ _ _ h => h) (by rfl) hSd ?_ ?_
      rotate_left 1
      · intro wS hSw
        obtain ⟨s0, s1, s2, s3, s4⟩ := hSw
        go_simp
        try with_reducible rfl
      try simp only [Act.put, List.setIfInBounds_toArray, List.set_cons_zero, List.set_cons_succ]
      refine fT_take (i := 25) (v := ?_) rfl (by kernel_rfl) (fun _ _ _ h => h) (by rfl) hSd ?_ ?_
      rotate_left 1
      · intro wS hSw
        obtain ⟨s0, s1, s2, s3, s4⟩ := hSw
        go_simp
        try with_reducible rfl
      try simp only [Act.put, List.setIfInBounds_toArray, List.set_cons_zero, List.set_cons_succ]
      refine fT_take (i := 26) (v := ?_) rfl (by kernel_rfl) (fun _ _ _ h => h) (by rfl) hSd ?_ ?_
      rotate_left 1
      · intro wS hSw
        obtain ⟨s0, s1, s2, s3, s4⟩ := hSw
        go_simp
        try with_reducible rfl
      try simp only [Act.put, List.setIfInBounds_toArray, List.set_cons_zero, List.set_cons_succ]
      refine wpAnyF_next (i := 27) rfl (by kernel_rfl) (fun K hK => ?_)
      go_simp
      refine hK.out _ _ (.inr hSa) ?_
      clear hK K
      try simp only [Act.put, List.setIfInBounds_toArray, List.set_cons_zero, List.set_cons_succ]
      refine wpAnyF_next (i := 28) rfl (by kernel_rfl) (fun K hK => ?_)
      refine step_append_lies _ (by rfl) _ _ _ (by rfl) w.heap.size 39 i0 _ 5 40 Try.underlying35 hi hz0 hz1 hz2 rfl (by omega) _ (l.take j).length _ (by rfl) (hownd.alloc _)
            ⟨wd.heap.size, 0, none⟩ 1 1 [.int .i64 xn, .int .i64 xd, .int .i64 xc, .int .i64 xo, .int .i64 xw] (by rfl) (by rfl) (World.news_of_block (cs := #[.int .i64 xn, .int .i64 xd, .int .i64 xc, .int .i64 xo, .int .i64 xw]) (t := 39) (fr := (0, 0)) (heap_alloc_new wd _)) (by simp [Value.oneCell'])
            (by omega) (by unfold maxLen; omega) (by omega) (by simp; omega) (wd.heap.size + 1) (by simp) ?_
      intro g cap' w1 hown1 hgrow hat hgt
      have hB1 : Below w.heap.size w w1 := hBA.grown hgrow hBA.size (fun q e => (own_cells HO.out e).1)
      have hS1 : w1.cell? ⟨b, o + j * 5, none⟩ = some (.int .i64 xn) ∧ w1.cell? ⟨b, o + j * 5 + 1, none⟩ = some (.int .i64 xd) ∧ w1.cell? ⟨b, o + j * 5 + 2, none⟩ = some (.int .i64 xc) ∧ w1.cell? ⟨b, o + j * 5 + 3, none⟩ = some (.int .i64 xo) ∧ w1.cell? ⟨b, o + j * 5 + 4, none⟩ = some (.int .i64 xw) := HC.out _ hB1
      refine hK.out _ _ (.inr hS1) ?_
      clear hK K
      try simp only [Act.put, List.setIfInBounds_toArray, List.set_cons_zero, List.set_cons_succ]
      refine wpAnyF_next (i := 29) rfl (by kernel_rfl) (fun K hK => ?_)
      go_simp
      refine hK.out _ _ (.inl rfl) ?_
      clear hK K
      try simp only [Act.put, List.setIfInBounds_toArray, List.set_cons_zero, List.set_cons_succ]
      refine wpAnyF_done (by kernel_rfl) ?_ _
      have HN2 : Hid (w1.ownsRow w.heap.size 39 5 (.slice (some ⟨g, 0, none⟩) (j + 1) cap') (l.take (j + 1)).length (cellsL encG (l.take (j + 1)))) := by
        show World.ownsRow _ _ _ _ _ _ _
        have h1 := hown1
        rw [hF1] at h1
        rw [HSU.out, List.length_append, cellsL_snoc, hF1]
        exact h1
      have HB1 := Lib.hid hB1
      clear hown1 hgrow hat hB1 hS1 hSa hSd hBA hba hownd hbd HSU
      go_wp2_with fail
      go_roundw
      case rel => exact ⟨j + 1, by omega, by go_num, HN2.out, HB1.out⟩
      case measure => simp [intOf]; omega
    · obtain rfl : j = l.length := by omega
      have hO := HO.out
      rw [List.take_length] at hO
      obtain ⟨ar, cr, rfl, hSl, hXl⟩ := sl_own (enc := encG) (fun _ => rfl) hO
      have HF : Hid (changesEnd w l (.returned (.slice ar l.length cr)) wr) := ⟨ar, cr, rfl, hSl, HB.out⟩
      clear hO HO hSl hXl HB
      go_wp2_with fail
      go_ret
      exact HF.out

end Go.Proofs.Ytmjgcenhgpkhiaa
