/- The statement PeriodsRise: its walk. -/
import Derived.Test.YtdhijkhjapjdnaaPer
import Derived.Test.YtdhijkhjapjdnaaBase
import Derived.LoopTactic
import Derived.Deep.LoopGhost
namespace Go.Proofs.Ytdhijkhjapjdnaa
open Go.ChangeShapes Go.WideShapes Go.ChangeAt Go.RowKit
set_option linter.unusedVariables false
set_option linter.unusedSimpArgs false

theorem last_big (size : Int) (h1 : 20 ≤ size) (h2 : size ≤ 400) : 182 ≤ lastP size := Int.le_ediv_of_mul_le (by omega) (by omega)

theorem lockE_next (size k : Int) (h1 : 20 ≤ size) (h2 : size ≤ 400) (h3 : 0 ≤ k) (h4 : k < 100) : lockE size k k 73048 = 0 ∧ lockN size k k 73048 = k + 1 := by
  have hl := last_big size h1 h2
  have m := Int.mul_le_mul_of_nonneg_right (show k ≤ 99 by omega) (show 0 ≤ size by omega)
  have ht : toP size k = if k * size + size - 1 ≤ 73048 then k * size + size - 1 else 73048 := toP.eq_1 _ _
  have e : lockE size k k 73048 = 0 := by
    rw [lockE, if_neg (by omega), if_neg (by omega), if_neg (by omega), if_neg (by rw [ht, if_pos (by omega)]; omega)]
  exact ⟨e, by rw [lockN, e]; rfl⟩

set_option maxRecDepth 100000 in
theorem rise_pre (size n d0 d1 : Int) (h : size < 20 ∨ 400 < size) (w : World) :
    Calls Try.prog 4 #[.int .i64 size, .int .i64 n, .agg #[.int .i64 d0, .int .i64 d1]] w fun e w' => e = .returned (.bool true) ∧ Below w.heap.size w w' := by
  by_cases h0 : size < 1
  · go_enter Try.func4, Try.ntmps4
    go_wp2_with (first
      | (go_at_call 9; refine (new_bad _ _ (Or.inl h0)).mono ?_; rintro e w1 ⟨rfl, rfl⟩)
      | (go_at_call 10; refine (awake_ok _).mono ?_; rintro e w2 ⟨rfl, hb2⟩))
    go_ret
    exact ⟨rfl, ((Below.refl _ _).alloc (Nat.le_refl _) _).trans ((hb2).mono (by simp))⟩
  · by_cases h1 : 400 < size
    · have h2 : ¬ size < 20 := by omega
      go_enter Try.func4, Try.ntmps4
      go_wp2_with (first
        | (go_at_call 9; refine (new_bad _ _ (Or.inr h1)).mono ?_; rintro e w1 ⟨rfl, rfl⟩)
        | (go_at_call 10; refine (awake_ok _).mono ?_; rintro e w2 ⟨rfl, hb2⟩))
      go_ret
      exact ⟨rfl, ((Below.refl _ _).alloc (Nat.le_refl _) _).trans ((hb2).mono (by simp))⟩
    · have h3 : size < 20 := by omega
      go_enter Try.func4, Try.ntmps4
      go_wp2_with fail
      refine (new_ok _ _ (by omega) (by omega)).mono ?_
      rintro e w1 ⟨b, s, rfl, hP1, hb1, g1, g2⟩
      have z1 := hb1.size
      go_wp2_with (go_at_call 10; refine (awake_ok _).mono ?_; rintro e w2 ⟨rfl, hb2⟩)
      go_ret
      exact ⟨rfl, ((Below.refl _ _).alloc (Nat.le_refl _) _).trans ((hb1.trans (hb2.mono (by omega))).mono (by simp))⟩

set_option maxRecDepth 100000 in
theorem rise_n (size n d0 d1 : Int) (h1 : 20 ≤ size) (h2 : size ≤ 400) (h : n < 0 ∨ 30 < n) (w : World) :
    Calls Try.prog 4 #[.int .i64 size, .int .i64 n, .agg #[.int .i64 d0, .int .i64 d1]] w fun e w' => e = .returned (.bool true) ∧ Below w.heap.size w w' := by
  rcases h with h | h
  all_goals
    go_enter Try.func4, Try.ntmps4
    go_wp2_with fail
    refine (new_ok _ _ (by omega) (by omega)).mono ?_
    rintro e w1 ⟨b, s, rfl, hP1, hb1, g1, g2⟩
    have z1 := hb1.size
    go_wp2_with (go_at_call 10; refine (awake_ok _).mono ?_; rintro e w2 ⟨rfl, hb2⟩)
    go_ret
    exact ⟨rfl, ((Below.refl _ _).alloc (Nat.le_refl _) _).trans ((hb1.trans (hb2.mono (by omega))).mono (by simp))⟩


/-- The law's list of two days lies in block B. -/
structure TwoAt (w : World) (B : Nat) (d0 d1 : Int) : Prop where
  c0 : w.cell? ⟨B, 0, none⟩ = some (.int .i64 d0)
  c1 : w.cell? ⟨B, 1, none⟩ = some (.int .i64 d1)
theorem TwoAt.below {w w' : World} {B B' : Nat} {d0 d1 : Int} (h : TwoAt w B d0 d1) (hb : Below B' w w') (hB : B < B') : TwoAt w' B d0 d1 :=
  ⟨(hb.cell (p := ⟨B, 0, none⟩) hB).trans h.c0, (hb.cell (p := ⟨B, 1, none⟩) hB).trans h.c1⟩

set_option maxRecDepth 100000 in
set_option maxHeartbeats 1000000 in
theorem rise_ok (size n d0 d1 : Int) (h1 : 20 ≤ size) (h2 : size ≤ 400) (hn : 0 ≤ n) (hn' : n ≤ 30) (w : World) :
    Calls Try.prog 4 #[.int .i64 size, .int .i64 n, .agg #[.int .i64 d0, .int .i64 d1]] w fun e w' => e = .returned (.bool true) ∧ Below w.heap.size w w' := by
  obtain ⟨m, rfl⟩ := Int.eq_ofNat_of_zero_le hn
  go_enter Try.func4, Try.ntmps4
  go_wp2_with fail
  refine (new_ok _ _ (by omega) (by omega)).mono ?_
  rintro e w1 ⟨b, s, rfl, hP1, hb1, g1, g2⟩
  have z1 := hb1.size
  simp at z1 g1 g2
  have hT : TwoAt w1 w.heap.size d0 d1 := TwoAt.below (B' := w.heap.size + 1) ⟨by go_simp, by go_simp⟩ (hb1.mono (by simp)) (by omega)
  have hb1' : Below w.heap.size w w1 := ((Below.refl _ _).alloc (Nat.le_refl _) _).trans (hb1.mono (by simp))
  clear hb1
  go_wp2_with fail
  go_loopw [9] (fun i wr => ∃ k : Nat, k ≤ m ∧ i = .int .i64 k ∧ Per wr b s size k ∧ TwoAt wr w.heap.size d0 d1 ∧ Below w.heap.size w wr) (fun i _ => m - (intOf i).toNat)
  case atStart => exact ⟨0, Nat.zero_le _, rfl, hP1, hT, hb1'⟩
  case round =>
    obtain ⟨k, hk, rfl, hPk, hTk, hbk⟩ := hrel
    clear hP1 hT hb1'
    by_cases hlt : k < m
    · obtain ⟨e1, e2⟩ := lockE_next size k h1 h2 (by omega) (by omega)
      have E1 := Lib.hid e1
      have E2 := Lib.hid e2
      clear e1 e2
      go_wp2_with fail
      refine (lock_any b s size k _ _ _ hPk (by omega) (by omega) (by omega) (by omega)).mono ?_
      rintro e w2 ⟨rfl, hP2, hb2⟩
      rw [E1.out]
      rw [E2.out] at hP2
      have hbk2 := hbk.trans (hb2.mono (by omega))
      have hT2 := hTk.below hb2 (by omega)
      go_wp2_with fail
      go_roundw
      case rel => exact ⟨k + 1, by omega, by go_num, hP2, hT2, hbk2⟩
      case measure => simp [intOf]; omega
    · obtain rfl : k = m := by omega
      have hl := last_big size h1 h2
      have h1' : 1 ≤ size := by omega
      have zk := hPk.lt
      have hc0 := hTk.c0
      by_cases c0 : 0 ≤ d0 ∧ d0 ≤ 73048
      · obtain ⟨c01, c02⟩ := c0
        go_wp2_with fail
        refine (book_ok b s size k _ _ hPk (by omega) (by omega) (by omega) (by omega)).mono ?_
        rintro e w2 ⟨rfl, hb2⟩
        have hP2 := hPk.after hb2
        have hT2 := hTk.below hb2 (by omega)
        have z2 := hb2.size
        have hc1 := hT2.c1
        by_cases c1 : 0 ≤ d1 ∧ d1 ≤ 73048
        · obtain ⟨c11, c12⟩ := c1
          go_wp2_with fail
          refine (book_ok b s size k _ _ hP2 (by omega) (by omega) (by omega) (by omega)).mono ?_
          rintro e w3 ⟨rfl, hb3⟩
          have hP3 := hP2.after hb3
          have hT3 := hT2.below hb3 (by omega)
          have z3 := hb3.size
          have hc0' := hT3.c0
          clear hc0 hc1
          go_wp2_with fail
          refine (of_ok b s size k _ _ hP3 (by omega) (by omega) (by omega)).mono ?_
          rintro e w4 ⟨rfl, hb4⟩
          have hP4 := hP3.after hb4
          have hT4 := hT3.below hb4 (by omega)
          have z4 := hb4.size
          have hc1' := hT4.c1
          clear hc0'
          go_wp2_with fail
          refine (of_ok b s size k _ _ hP4 (by omega) (by omega) (by omega)).mono ?_
          rintro e w5 ⟨rfl, hb5⟩
          have hT5 := hT4.below hb5 (by omega)
          have z5 := hb5.size
          have hc05 := hT5.c0
          have hc15 := hT5.c1
          have hbE : Below w.heap.size w w5 := hbk.trans ((hb2.mono (by omega)).trans ((hb3.mono (by omega)).trans ((hb4.mono (by omega)).trans (hb5.mono (by omega)))))
          clear hc1'
          have x0 : bookP size k d0 = if d0 / size < k then (k : Int) else d0 / size := bookP.eq_1 _ _ _
          have x1 : bookP size k d1 = if d1 / size < k then (k : Int) else d1 / size := bookP.eq_1 _ _ _
          have y1 : d0 / size ≤ bookP size k d0 := by rw [x0]; split <;> omega
          have y2 : d1 / size ≤ bookP size k d1 := by rw [x1]; split <;> omega
          have y3 : (k : Int) ≤ bookP size k d0 := by rw [x0]; split <;> omega
          have y4 : d0 ≤ d1 → bookP size k d0 ≤ bookP size k d1 := by
            intro h
            have := Int.ediv_le_ediv (show 0 < size by omega) h
            rw [x0, x1]; split <;> split <;> omega
          by_cases cx : d0 / size < k
          · have y5 : (bookP size k d0 == (k : Int)) = true := by rw [x0, if_pos cx]; exact beq_self_eq_true _
            have y6 : (bookP size k d0 == d0 / size) = false := by rw [x0, if_pos cx, beq_eq_false_iff_ne]; omega
            clear x0 x1
            by_cases cd : d1 < d0
            all_goals
              first | (have y4' := y4 (by omega)) | skip
              clear y4
              go_wp2_with (go_at_call 10; refine (awake_ok _).mono ?_; rintro e w9 ⟨rfl, hb9⟩)
              go_ret
              exact ⟨rfl, hbE.trans (hb9.mono hbE.size)⟩
          · have y6 : (bookP size k d0 == d0 / size) = true := by rw [x0, if_neg cx]; exact beq_self_eq_true _
            clear x0 x1
            by_cases cd : d1 < d0
            all_goals
              first | (have y4' := y4 (by omega)) | skip
              clear y4
              go_wp2_with (go_at_call 10; refine (awake_ok _).mono ?_; rintro e w9 ⟨rfl, hb9⟩)
              go_ret
              exact ⟨rfl, hbE.trans (hb9.mono hbE.size)⟩
        · go_wp2_with fail
          refine (book_bad b _ _ (by omega)).mono ?_
          rintro e w3 ⟨rfl, hb3⟩
          have hbE : Below w.heap.size w w3 := hbk.trans ((hb2.mono (by omega)).trans (hb3.mono (by omega)))
          go_wp2_with (go_at_call 10; refine (awake_ok _).mono ?_; rintro e w9 ⟨rfl, hb9⟩)
          go_ret
          exact ⟨rfl, hbE.trans (hb9.mono hbE.size)⟩
      · go_wp2_with fail
        refine (book_bad b _ _ (by omega)).mono ?_
        rintro e w2 ⟨rfl, hb2⟩
        have hT2 := hTk.below hb2 (by omega)
        have z2 := hb2.size
        have hP2 := hPk.after hb2
        have hc1 := hT2.c1
        go_wp2_with fail
        by_cases c1 : 0 ≤ d1 ∧ d1 ≤ 73048
        · obtain ⟨c11, c12⟩ := c1
          refine (book_ok b s size k _ _ hP2 (by omega) (by omega) (by omega) (by omega)).mono ?_
          rintro e w3 ⟨rfl, hb3⟩
          have hbE : Below w.heap.size w w3 := hbk.trans ((hb2.mono (by omega)).trans (hb3.mono (by omega)))
          go_wp2_with (go_at_call 10; refine (awake_ok _).mono ?_; rintro e w9 ⟨rfl, hb9⟩)
          go_ret
          exact ⟨rfl, hbE.trans (hb9.mono hbE.size)⟩
        · refine (book_bad b _ _ (by omega)).mono ?_
          rintro e w3 ⟨rfl, hb3⟩
          have hbE : Below w.heap.size w w3 := hbk.trans ((hb2.mono (by omega)).trans (hb3.mono (by omega)))
          go_wp2_with (go_at_call 10; refine (awake_ok _).mono ?_; rintro e w9 ⟨rfl, hb9⟩)
          go_ret
          exact ⟨rfl, hbE.trans (hb9.mono hbE.size)⟩

theorem walk_PeriodsRise {H : Type} (enc : TypeId × Value → H) (base : Nat) (W : World) (size : Int) (_ : (Lit.int .i64 size).wf = true) (n : Int) (_ : (Lit.int .i64 n).wf = true)
    (v : Value) (d : DataW H) (p : List MemPlace) (h : DataW.Trod enc Try.prog W 0 (fun _ => true) true 33 v d p) (ok : Value.okWide Try.prog W .any base 33 v) :
    Calls Try.prog 4 #[.int .i64 size, .int .i64 n, v] W fun e w' => e = .returned (.bool true) ∧ Below W.heap.size W w' := by
  obtain ⟨cs, rfl⟩ := okWide_agg (by kernel_rfl) ok
  have hl := arg_leaves (d := 3) (ls := [3, 3]) (by kernel_rfl) h
  obtain ⟨c0, cs0, e0, h0, hl⟩ := hl.cons
  obtain ⟨c1, cs1, e1, h1, hl⟩ := hl.cons
  obtain ⟨d0, rfl, _⟩ := h0.int Try.underlying3
  obtain ⟨d1, rfl, _⟩ := h1.int Try.underlying3
  obtain rfl := hl.nil
  obtain ⟨l⟩ := cs
  simp only [Value.cells] at e0
  subst e0
  subst e1
  by_cases hs : size < 20 ∨ 400 < size
  · exact rise_pre size n d0 d1 hs W
  · by_cases hn : n < 0 ∨ 30 < n
    · exact rise_n size n d0 d1 (by omega) (by omega) hn W
    · exact rise_ok size n d0 d1 (by omega) (by omega) (by omega) (by omega) W

end Go.Proofs.Ytdhijkhjapjdnaa
