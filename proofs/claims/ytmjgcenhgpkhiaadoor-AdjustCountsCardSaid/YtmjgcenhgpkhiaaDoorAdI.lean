/- Package adjust: Ordered. -/
import Derived.Test.YtmjgcenhgpkhiaaDoorAdH
namespace Go.Proofs.YtmjgcenhgpkhiaaDoor
open Go.RowKit Go.Sort Go.Shelf
set_option linter.unusedVariables false
set_option linter.unusedSimpArgs false

theorem below_growQ {w : World} (q : Nat) (os : Array Obj) : Below w.heap.size w (Sort.grow (w.drewN q) os) := ⟨rfl, rfl, rfl, by simp, fun k hk => by
  unfold Sort.grow
  dsimp only
  exact Array.getElem?_append_left hk⟩
theorem ordB_snoc {w : List Fl} {x : Fl} : ordB (w ++ [x]) = true ↔ ordB w = true ∧ x.a ≠ 0 ∧ ∀ z, w[w.length - 1]? = some z → ltK z.ky x.ky := by
  constructor
  · intro h
    obtain ⟨h1, h2⟩ := ordB_ok h
    have hp := List.pairwise_append.1 h2
    exact ⟨ordB_of (fun y hy => h1 y (by simp [hy])) hp.1, h1 x (by simp), fun z hz => hp.2.2 z (List.mem_of_getElem? hz) x (by simp)⟩
  · rintro ⟨h1, h2, h3⟩
    obtain ⟨h4, h5⟩ := ordB_ok h1
    refine ordB_of (fun y hy => ?_) (List.pairwise_append.2 ⟨h5, by simp, fun y hy z hz => ?_⟩)
    · rcases List.mem_append.1 hy with hy | hy
      · exact h4 y hy
      · rw [List.mem_singleton.1 hy]; exact h2
    · rw [List.mem_singleton.1 hz]
      obtain ⟨i, hi, e⟩ := List.getElem_of_mem hy
      have hlast := h3 w[w.length - 1] (List.getElem?_eq_getElem (by omega))
      by_cases hl : i = w.length - 1
      · have : y = w[w.length - 1] := by rw [← e]; congr 1
        rw [this]; exact hlast
      · have := List.pairwise_iff_getElem.1 h5 i (w.length - 1) hi (by omega) (by omega)
        rw [e] at this
        exact ltK_trans this hlast
def OrdEnd (w : World) (l : List Fl) (e : Ending) (w' : World) : Prop := e = .returned (.int .i64 (ordE l)) ∧ Below w.heap.size w w'
set_option maxHeartbeats 4000000 in
set_option maxRecDepth 100000 in
theorem ordered_ok (a : Option Addr) (cap : Nat) (l : List Fl) (w : World) (h : SlG w 3 encW a cap l) (hl : l.length ≤ 1000) :
    Calls Tryd.prog 38 #[.slice a l.length cap] w (OrdEnd w l) := by
  have H := Lib.hid h
  clear h
  go_enter Tryd.func38, Tryd.ntmps38
  go_wp2_with fail
  go_loopw [7] (fun i wr => ∃ j : Nat, j ≤ l.length ∧ i = .int .i64 j ∧ Hid (ordB (l.take j) = true ∧ Below w.heap.size w wr)) (fun i _ => l.length - (intOf i).toNat)
  case atStart => exact ⟨0, by omega, rfl, by simp [ordB], Below.refl _ _⟩
  case round =>
    obtain ⟨j, hj, rfl, HQ⟩ := hrel
    by_cases hlt : j < l.length
    · have hx := List.getElem?_eq_getElem hlt
      obtain ⟨x, hy⟩ : ∃ x, l[j] = x := ⟨_, rfl⟩
      rw [hy] at hx
      have hTk : l.take (j + 1) = l.take j ++ [x] := by rw [List.take_succ_eq_append_getElem hlt, hy]
      have hS := H.out.after HQ.out.2
      rcases hS.sh with rfl | ⟨b, o, rfl, hbl⟩
      · exact absurd hlt (by simp)
      obtain ⟨xd, xc, xa⟩ := x
      have p0 : wr.cell? ⟨b, o + j * 3, none⟩ = some (.int .i64 xd) := RecsAt.cell hS.recs rfl hlt hx (j := 0) rfl
      have p1 : wr.cell? ⟨b, o + j * 3 + 1, none⟩ = some (.int .i64 xc) := RecsAt.cell hS.recs rfl hlt hx (j := 1) rfl
      have p2 : wr.cell? ⟨b, o + j * 3 + 2, none⟩ = some (.int .i64 xa) := RecsAt.cell hS.recs rfl hlt hx (j := 2) rfl
      have i1 : (0 : Int) ≤ (j : Int) := by omega
      have i2 : (j : Int) < (l.length : Int) := by omega
      obtain ⟨w2, hw2⟩ : ∃ W, wr.alloc (.cells #[.int .i64 xd, .int .i64 xc, .int .i64 xa] 58) = W := ⟨_, rfl⟩
      have hb2 : Below wr.heap.size wr w2 := by rw [← hw2]; exact (Below.refl _ _).alloc (Nat.le_refl _) _
      have kx : Blk w2 wr.heap.size #[.int .i64 xd, .int .i64 xc, .int .i64 xa] 58 := by rw [← hw2]; exact Blk.new _ _ _
      have HB2 : Hid (Below w.heap.size w w2) := HQ.out.2.trans (hb2.mono HQ.out.2.size)
      have HBad : Hid (ordB (l.take (j + 1)) ≠ true → ∀ W, Below w2.heap.size w2 W → OrdEnd w l (.returned (.int .i64 13)) W) := fun hn W hW => ⟨by
        unfold ordE
        rw [if_neg (fun h => hn (ordB_take h _))], HB2.out.trans (hW.mono HB2.out.size)⟩
      have HGood : Hid (ordB (l.take (j + 1)) = true ↔ ordB (l.take j) = true ∧ xa ≠ 0 ∧ ∀ z, (l.take j)[(l.take j).length - 1]? = some z → ltK z.ky (xd, xc)) := by show _ ↔ _; rw [hTk]; exact ordB_snoc
      have HKX := Lib.hid kx
      have HW2 := Lib.hid hw2
      have HS2 := Lib.hid (hS.after hb2)
      clear hx hy hTk hS hw2 hb2 kx
      by_cases ha : xa = 0
      · subst ha
        have hnot : ordB (l.take (j + 1)) ≠ true := fun h => (HGood.out.1 h).2.1 rfl
        have HBq : Hid (∀ n, OrdEnd w l (.returned (.int .i64 13)) (w2.drewN n)) := fun n => HBad.out hnot _ (below_draws _ n)
        obtain ⟨x0, x1, x2, _, _, _⟩ : w2.cell? ⟨wr.heap.size, 0, none⟩ = some (.int .i64 xd) ∧ w2.cell? ⟨wr.heap.size, 1, none⟩ = some (.int .i64 xc) ∧ w2.cell? ⟨wr.heap.size, 2, none⟩ = some (.int .i64 0) ∧ True ∧ True ∧ True := ⟨HKX.out.cell 0 rfl, HKX.out.cell 1 rfl, HKX.out.cell 2 rfl, trivial, trivial, trivial⟩
        rw [← HW2.out] at x0 x1 x2
        clear hnot
        go_wp2_with (go_quiet (fail))
        go_ret
        rw [HW2.out]
        exact HBq.out _
      · have ea : (xa == 0) = false := by rw [beq_eq_false_iff_ne]; exact ha
        by_cases h0 : j = 0
        · have g1 : decide ((0 : Int) < (j : Int)) = false := decide_eq_false (by omega)
          have g2 : decide (0 < j) = false := decide_eq_false (by omega)
          have HN : Hid (ordB (l.take (j + 1)) = true) := HGood.out.2 ⟨HQ.out.1, ha, fun z hz => by rw [h0] at hz; simp at hz⟩
          obtain ⟨x0, x1, x2, _, _, _⟩ : w2.cell? ⟨wr.heap.size, 0, none⟩ = some (.int .i64 xd) ∧ w2.cell? ⟨wr.heap.size, 1, none⟩ = some (.int .i64 xc) ∧ w2.cell? ⟨wr.heap.size, 2, none⟩ = some (.int .i64 xa) ∧ True ∧ True ∧ True := ⟨HKX.out.cell 0 rfl, HKX.out.cell 1 rfl, HKX.out.cell 2 rfl, trivial, trivial, trivial⟩
          rw [← HW2.out] at x0 x1 x2
          have HBn : Hid (∀ n, Below w.heap.size w (w2.drewN n)) := fun n => HB2.out.trans (below_draws _ n)
          clear HQ h0
          go_wp2_with (go_quiet (fail))
          rw [HW2.out]
          go_roundw
          case rel => exact ⟨j + 1, by omega, by go_num, HN.out, HBn.out _⟩
          case measure => simp [intOf]; omega
        · have g1 : decide ((0 : Int) < (j : Int)) = true := decide_eq_true (by omega)
          have g2 : decide (0 < j) = true := decide_eq_true (by omega)
          obtain ⟨i, hi⟩ : ∃ i, i + 1 = j := ⟨j - 1, by omega⟩
          have hz := List.getElem?_eq_getElem (show i < l.length by omega)
          obtain ⟨z, hy⟩ : ∃ z, l[i] = z := ⟨_, rfl⟩
          rw [hy] at hz
          obtain ⟨zd, zc, za⟩ := z
          have hlast : (l.take j)[(l.take j).length - 1]? = some ⟨zd, zc, za⟩ := by
            rw [List.length_take, List.getElem?_take_of_lt (by omega), show min j l.length - 1 = i by omega]
            exact hz
          have hwr : IntKind.i64.wrap ((j : Int) - 1) = (i : Int) := by rw [IntWalk.i64_in _ (by omega)]; omega
          have i3 : (0 : Int) ≤ (i : Int) := by omega
          have i4 : (i : Int) < (l.length : Int) := by omega
          have HSc : Hid (∀ W, Below w2.heap.size w2 W → W.cell? ⟨wr.heap.size, 0, none⟩ = some (.int .i64 xd) ∧ W.cell? ⟨wr.heap.size, 1, none⟩ = some (.int .i64 xc) ∧ W.cell? ⟨wr.heap.size, 2, none⟩ = some (.int .i64 xa) ∧ W.cell? ⟨b, o + i * 3, none⟩ = some (.int .i64 zd) ∧ W.cell? ⟨b, o + i * 3 + 1, none⟩ = some (.int .i64 zc)) := fun W hW => ⟨(HKX.out.after hW).cell 0 rfl, (HKX.out.after hW).cell 1 rfl, (HKX.out.after hW).cell 2 rfl, RecsAt.cell (HS2.out.after hW).recs rfl (by omega) hz (j := 0) rfl, RecsAt.cell (HS2.out.after hW).recs rfl (by omega) hz (j := 1) rfl⟩
          have HGo : Hid (ltK (zd, zc) (xd, xc) → ordB (l.take (j + 1)) = true) := fun h => HGood.out.2 ⟨HQ.out.1, ha, fun z hz' => by rw [hlast] at hz'; cases hz'; exact h⟩
          have HNo : Hid (¬ ltK (zd, zc) (xd, xc) → ∀ W, Below w2.heap.size w2 W → OrdEnd w l (.returned (.int .i64 13)) W) := fun h => HBad.out fun hg => h ((HGood.out.1 hg).2.2 _ hlast)
          have hcm := cmpKD_lt (zd, zc) (xd, xc)
          have HCm : Hid (∀ W, Calls Tryd.prog 55 #[.agg #[.int .i64 zd, .int .i64 zc], .agg #[.int .i64 xd, .int .i64 xc]] W fun e w' => e = .returned (.int .i64 (cmpKD (zd, zc) (xd, xc))) ∧ ∃ q os', w' = grow (W.drewN q) os') := fun W => compare_ok (zd, zc) (xd, xc) W
          obtain ⟨V, hV⟩ : ∃ V, cmpKD (zd, zc) (xd, xc) = V := ⟨_, rfl⟩
          rw [hV] at hcm HCm
          clear hV hz hy hlast HQ HGood HBad ha h0
          by_cases hk : ltK (zd, zc) (xd, xc)
          · have gv : decide (0 ≤ V) = false := by
              rw [decide_eq_true hk] at hcm
              have := of_decide_eq_true hcm
              exact decide_eq_false (by omega)
            have HN := Lib.hid (HGo.out hk)
            clear hk hcm HGo HNo
            go_wp2_with fail
            rw [HW2.out]
            go_region_held3 (fun W => W.cell? ⟨wr.heap.size, 0, none⟩ = some (.int .i64 xd) ∧ W.cell? ⟨wr.heap.size, 1, none⟩ = some (.int .i64 xc) ∧ W.cell? ⟨wr.heap.size, 2, none⟩ = some (.int .i64 xa) ∧ W.cell? ⟨b, o + i * 3, none⟩ = some (.int .i64 zd) ∧ W.cell? ⟨b, o + i * 3 + 1, none⟩ = some (.int .i64 zc))
              (first | with_reducible exact HSc.out _ (Below.refl _ _).drew | with_reducible exact HSc.out _ hB5 | go_keep)
              (first
                | (go_at_call 55; (with_reducible refine (HCm.out _).mono ?_); rintro e w5 ⟨rfl, q, os', hw5⟩; have hB5 : Below w2.heap.size w2 w5 := (by rw [hw5]; exact (Below.refl _ _).drew.trans (show Below w2.drew.heap.size w2.drew _ from below_growQ q os')); clear hw5))
            go_wp2_with fail
            go_roundw
            case rel => exact ⟨j + 1, by omega, by go_num, HN.out, HB2.out.trans (hB5.mono HB2.out.size)⟩
            case measure => simp [intOf]; omega
          · have gv : decide (0 ≤ V) = true := by
              rw [decide_eq_false hk] at hcm
              have := of_decide_eq_false hcm
              exact decide_eq_true (by omega)
            have HN := Lib.hid (HNo.out hk)
            clear hk hcm HGo HNo
            go_wp2_with fail
            rw [HW2.out]
            go_region_held3 (fun W => W.cell? ⟨wr.heap.size, 0, none⟩ = some (.int .i64 xd) ∧ W.cell? ⟨wr.heap.size, 1, none⟩ = some (.int .i64 xc) ∧ W.cell? ⟨wr.heap.size, 2, none⟩ = some (.int .i64 xa) ∧ W.cell? ⟨b, o + i * 3, none⟩ = some (.int .i64 zd) ∧ W.cell? ⟨b, o + i * 3 + 1, none⟩ = some (.int .i64 zc))
              (first | with_reducible exact HSc.out _ (Below.refl _ _).drew | with_reducible exact HSc.out _ hB5 | go_keep)
              (first
                | (go_at_call 55; (with_reducible refine (HCm.out _).mono ?_); rintro e w5 ⟨rfl, q, os', hw5⟩; have hB5 : Below w2.heap.size w2 w5 := (by rw [hw5]; exact (Below.refl _ _).drew.trans (show Below w2.drew.heap.size w2.drew _ from below_growQ q os')); clear hw5))
            go_wp2_with fail
            go_ret
            exact HN.out _ hB5
    · obtain rfl : j = l.length := by omega
      have HF : Hid (OrdEnd w l (.returned (.int .i64 0)) wr) := ⟨by
        have := HQ.out.1
        rw [List.take_length] at this
        unfold ordE
        rw [if_pos this], HQ.out.2⟩
      clear HQ
      go_wp2_with fail
      go_ret
      exact HF.out

end Go.Proofs.YtmjgcenhgpkhiaaDoor
