/- The document's agenda: in. -/
import Derived.Test.YtgcncnmkfpfccaaAgT
import Derived.Test.YtgcncnmkfpfccaaApp
namespace Go.Proofs.Ytgcncnmkfpfccaa
open Go.RowKit Go.Sort Go.Shelf
set_option linter.unusedVariables false
set_option linter.unusedSimpArgs false

theorem infoRt : (Try.prog.info? 37).map (fun i => (i.zero, i.size, i.bytes)) = some (some (.agg #[.int .i64 0, .int .i64 0, .int .i64 0]), 3, 24) := by kernel_rfl
theorem putK_at : ∀ {S : List It} {x : It} (j : Nat), j ≤ S.length → (∀ i, i < j → ∀ z, S[i]? = some z → ltK z.ky x.ky) → (∀ z, S[j]? = some z → ¬ ltK z.ky x.ky) → (∀ z ∈ S, z.ky ≠ x.ky) → putK It.ky S x = S.take j ++ x :: S.drop j
  | [], x, j, hj, _, _, _ => by
    obtain rfl : j = 0 := by simpa using hj
    rfl
  | y :: S, x, 0, _, _, h0, hne => by
    have hy := h0 y rfl
    have hn := hne y (by simp)
    have hlt : ltK x.ky y.ky := by
      rcases y with ⟨yd, yn, yt⟩
      rcases x with ⟨xd, xn, xt⟩
      simp only [It.ky, ltK, ne_eq, Prod.mk.injEq, not_and] at hy hn ⊢
      omega
    show putK It.ky (y :: S) x = x :: y :: S
    unfold putK
    rw [if_pos hlt]
  | y :: S, x, j + 1, hj, hlo, h0, hne => by
    have hy := hlo 0 (by omega) y rfl
    have h1 : ¬ ltK x.ky y.ky := by
      rcases y with ⟨yd, yn, yt⟩
      rcases x with ⟨xd, xn, xt⟩
      simp only [It.ky, ltK] at hy ⊢
      omega
    have ih := putK_at (S := S) (x := x) j (by simpa using hj) (fun i hi z hz => hlo (i + 1) (by omega) z (by simpa using hz)) (fun z hz => h0 z (by simpa using hz)) (fun z hz => hne z (by simp [hz]))
    show putK It.ky (y :: S) x = y :: (S.take j ++ x :: S.drop j)
    unfold putK
    rw [if_neg h1, if_neg (hne y (by simp)), ih]

/-- What 'in' leaves. -/
def InEnd (w : World) (A : List It) (e : Ending) (w' : World) : Prop :=
  ∃ a cap, e = .returned (.slice a A.length cap) ∧ SlAt w' 3 encI a cap A ∧ Below w.heap.size w w' ∧ ∀ y, a = some y → w.heap.size ≤ y.block
set_option maxHeartbeats 4000000 in
set_option maxRecDepth 100000 in
theorem in_ok (a : Option Addr) (cap : Nat) (S : List It) (x : It) (w : World) (h : SlAt w 3 encI a cap S) (hl : S.length ≤ 1000) (hne : ∀ z ∈ S, z.ky ≠ x.ky) :
    Calls Try.prog 26 #[.slice a S.length cap, .agg (encI x).toArray] w (InEnd w (putK It.ky S x)) := by
  obtain ⟨i0, hi, hz0, hz1, hz2⟩ := info_parts infoRt
  obtain ⟨xd, xn, xt⟩ := x
  dsimp only [encI]
  have H := Lib.hid h
  have HNe := Lib.hid hne
  obtain ⟨w0, hw0⟩ : ∃ W, w.alloc (.cells #[.int .i64 xd, .int .i64 xn, .int .i64 xt] 37) = W := ⟨_, rfl⟩
  have hb0 : Below w.heap.size w w0 := by rw [← hw0]; exact (Below.refl _ _).alloc (Nat.le_refl _) _
  have kx : Blk w0 w.heap.size #[.int .i64 xd, .int .i64 xn, .int .i64 xt] 37 := by rw [← hw0]; exact Blk.new _ _ _
  have z0 : w0.heap.size = w.heap.size + 1 := by rw [← hw0]; simp
  have HB0 := Lib.hid hb0
  have HKX := Lib.hid kx
  have HW0 := Lib.hid hw0
  have HSA : Hid (∀ W, Below w0.heap.size w0 W → RecsAt W a 3 encI S) := fun W hW => (H.out.after (hb0.trans (hW.mono (by omega)))).recs
  have hcap := h.le
  have hcm := h.max
  unfold maxLen at hcm
  clear h hne hw0 hb0 kx
  go_enter Try.func26, Try.ntmps26
  go_wp2_with fail
  rw [HW0.out]
  go_loopw [5] (fun i wr => ∃ j : Nat, j ≤ S.length ∧ i = .int .i64 j ∧ Hid ((∀ i, i < j → ∀ z, S[i]? = some z → ltK z.ky (xd, xn)) ∧ Below w0.heap.size w0 wr)) (fun i _ => S.length - (intOf i).toNat)
  case atStart => exact ⟨0, by omega, rfl, fun i hi => absurd hi (by omega), Below.refl _ _⟩
  case round =>
    obtain ⟨j, hj, rfl, HQ⟩ := hrel
    have hK := HKX.out.after HQ.out.2
    have x0 : wr.cell? ⟨w.heap.size, 0, none⟩ = some (.int .i64 xd) := hK.cell 0 rfl
    have x1 : wr.cell? ⟨w.heap.size, 1, none⟩ = some (.int .i64 xn) := hK.cell 1 rfl
    have x2 : wr.cell? ⟨w.heap.size, 2, none⟩ = some (.int .i64 xt) := hK.cell 2 rfl
    have hS := (H.out.after HB0.out).after HQ.out.2
    have i1 : (0 : Int) ≤ (j : Int) := by omega
    by_cases hlt : j < S.length
    · have hx := List.getElem?_eq_getElem hlt
      obtain ⟨x, hy⟩ : ∃ x, S[j] = x := ⟨_, rfl⟩
      rw [hy] at hx
      have hR := hS.recs
      rcases hS.sh with ⟨rfl, rfl, rfl⟩ | ⟨b, o, rfl, hbl⟩
      · exact absurd hlt (by simp)
      obtain ⟨yd, yn, yt⟩ := x
      have p0 : wr.cell? ⟨b, o + j * 3, none⟩ = some (.int .i64 yd) := RecsAt.cell hR rfl hlt hx (j := 0) rfl
      have p1 : wr.cell? ⟨b, o + j * 3 + 1, none⟩ = some (.int .i64 yn) := RecsAt.cell hR rfl hlt hx (j := 1) rfl
      have i2 : (j : Int) < (S.length : Int) := by omega
      have g0 : decide ((j : Int) < (S.length : Int)) = true := decide_eq_true (by omega)
      have g0' : decide (j < S.length) = true := decide_eq_true hlt
      by_cases h1 : yd < xd
      · have g1 : decide (yd < xd) = true := decide_eq_true h1
        have HN : Hid (∀ i, i < j + 1 → ∀ z, S[i]? = some z → ltK z.ky (xd, xn)) := fun i hi z hz => by
          rcases Nat.lt_or_ge i j with h | h
          · exact HQ.out.1 i h z hz
          · obtain rfl : i = j := by omega
            rw [hx] at hz
            cases hz
            exact .inl h1
        clear h1 hx hy hR hS hK
        go_wp2_with (go_quiet (fail))
        go_roundw
        case rel => exact ⟨j + 1, by omega, by go_num, HN.out, HQ.out.2.trans (below_draws _ nq)⟩
        case measure => simp [intOf]; omega
      have g1 : decide (yd < xd) = false := decide_eq_false h1
      by_cases h2 : yd = xd
      · subst h2
        by_cases h3 : yn < xn
        · have g2 : decide (yn < xn) = true := decide_eq_true h3
          have HN : Hid (∀ i, i < j + 1 → ∀ z, S[i]? = some z → ltK z.ky (yd, xn)) := fun i hi z hz => by
            rcases Nat.lt_or_ge i j with h | h
            · exact HQ.out.1 i h z hz
            · obtain rfl : i = j := by omega
              rw [hx] at hz
              cases hz
              exact .inr ⟨rfl, h3⟩
          clear h1 h3 hx hy hR hS hK
          go_wp2_with (go_quiet (fail))
          go_roundw
          case rel => exact ⟨j + 1, by omega, by go_num, HN.out, HQ.out.2.trans (below_draws _ nq)⟩
          case measure => simp [intOf]; omega
        · have g2 : decide (yn < xn) = false := decide_eq_false h3
          have HE : Hid (putK It.ky S ⟨yd, xn, xt⟩ = S.take j ++ ⟨yd, xn, xt⟩ :: S.drop j) := putK_at j hj HQ.out.1 (fun z hz => by rw [hx] at hz; cases hz; simp only [It.ky, ltK]; omega) HNe.out
          clear h1 h3 hx hy hR hS hK
          have HSW := HSA
          have HXc : Hid (∀ W, Below w0.heap.size w0 W → W.cell? ⟨w.heap.size, 0, none⟩ = some (.int .i64 yd) ∧ W.cell? ⟨w.heap.size, 1, none⟩ = some (.int .i64 xn) ∧ W.cell? ⟨w.heap.size, 2, none⟩ = some (.int .i64 xt)) := fun W hW => ⟨(HKX.out.after hW).cell 0 rfl, (HKX.out.after hW).cell 1 rfl, (HKX.out.after hW).cell 2 rfl⟩
          have HBq : Hid (∀ n, Below w0.heap.size w0 (wr.drewN n)) := fun n => HQ.out.2.trans (below_draws _ n)
          have zr := HQ.out.2.size
          clear HQ HNe HKX
          go_wp2_with (first
            | (at_builtin; refine wpList_append_recs (enc := encI) rfl (.tmp 43) (.tmp 46) 27 rfl w0.heap.size 37 i0 _ 24 Try.underlying27 hi hz0 hz1 hz2 rfl (by decide) (fun _ => rfl) encI_one _ 0 [] rfl rfl (World.ownsRow_nil _ _ _ _) _ _ _ (S.take j) rfl ((HSW.out _ (HBq.out nq)).takeR j) (by rw [List.length_take]; omega) (fun h => by cases h) (by unfold maxLen; omega) (by omega) (by show w0.heap.size ≤ wr.heap.size; omega) ?_; intro v1 w5 hown1 hb1; have hown1' : w5.ownsRow w0.heap.size 37 3 v1 j (cellsL encI (S.take j)) := (by simpa using hown1); have hb5 := (HBq.out nq).trans hb1; have HO1 := Lib.hid hown1'; have HB5 := Lib.hid hb5; obtain ⟨x0', x1', x2'⟩ := HXc.out w5 hb5; have z5 := hb5.size; clear hown1 hown1' hb1 hb5 x0 x1 x2)
            | (at_builtin; refine wpList_append_own _ rfl (.tmp 48) (.tmp 50) 27 rfl w0.heap.size 37 i0 _ 3 24 Try.underlying27 hi hz0 hz1 hz2 rfl (by decide) _ j _ rfl (HO1.out.alloc _) ⟨w5.heap.size, 0, none⟩ 1 1 [.int .i64 yd, .int .i64 xn, .int .i64 xt] rfl rfl (World.news_of_block (cs := #[.int .i64 yd, .int .i64 xn, .int .i64 xt]) (t := 37) (fr := (0, 0)) (heap_alloc_new w5 _)) (by simp [Value.oneCell']) (by unfold maxLen; omega) (by omega) (by simp; omega) ?_; intro v2 w6 hown2 hgrow2 _; have hb6 : Below w0.heap.size w0 w6 := ((HB5.out).alloc z5 _).grown hgrow2 (by simp; omega) (fun k e => (own_cells HO1.out e).1); have HO2 := Lib.hid hown2; have HB6 := Lib.hid hb6; have z6 := hb6.size; clear hown2 hgrow2 hb6)
            | (at_builtin; refine wpList_append_recs (enc := encI) rfl (.tmp 52) (.tmp 55) 27 rfl w0.heap.size 37 i0 _ 24 Try.underlying27 hi hz0 hz1 hz2 rfl (by decide) (fun _ => rfl) encI_one _ (j + 1) (S.take j ++ [⟨yd, xn, xt⟩]) rfl (by simp; omega) (by rw [cellsL_snoc]; exact HO2.out) _ _ _ (S.drop j) rfl ((HSW.out _ HB6.out).dropR j) (by rw [List.length_drop]) (fun h => by cases h) (by unfold maxLen; omega) (by omega) (by omega) ?_; intro v3 w7 hown3 hb7; have HO3 := Lib.hid hown3; have HB7 := Lib.hid (HB6.out.trans hb7); clear hown3 hb7)
            | go_quiet (fail))
          have hc7 : S.take j ++ [⟨yd, xn, xt⟩] ++ S.drop j = putK It.ky S ⟨yd, xn, xt⟩ := by rw [HE.out, List.append_assoc]; rfl
          have h7 := HO3.out
          rw [hc7] at h7
          have hO : w7.ownsRow w0.heap.size 37 3 v3 (putK It.ky S ⟨yd, xn, xt⟩).length (cellsL encI (putK It.ky S ⟨yd, xn, xt⟩)) := by
            have hn : (putK It.ky S ⟨yd, xn, xt⟩).length = j + 1 + (S.length - j) := by rw [HE.out]; simp; omega
            rw [hn]
            exact h7
          obtain ⟨a', cap', rfl, hSl, hXl⟩ := sl_own (enc := encI) (fun _ => rfl) hO
          go_ret
          exact ⟨a', cap', rfl, hSl, HB0.out.trans (HB7.out.mono (by omega)), fun y e => by have := (hXl y e).1; omega⟩
      · have g2 : (yd == xd) = false := by rw [beq_eq_false_iff_ne]; exact h2
        have HE : Hid (putK It.ky S ⟨xd, xn, xt⟩ = S.take j ++ ⟨xd, xn, xt⟩ :: S.drop j) := putK_at j hj HQ.out.1 (fun z hz => by rw [hx] at hz; cases hz; simp only [It.ky, ltK]; omega) HNe.out
        clear h1 h2 hx hy hR hS hK
        have HSW := HSA
        have HXc : Hid (∀ W, Below w0.heap.size w0 W → W.cell? ⟨w.heap.size, 0, none⟩ = some (.int .i64 xd) ∧ W.cell? ⟨w.heap.size, 1, none⟩ = some (.int .i64 xn) ∧ W.cell? ⟨w.heap.size, 2, none⟩ = some (.int .i64 xt)) := fun W hW => ⟨(HKX.out.after hW).cell 0 rfl, (HKX.out.after hW).cell 1 rfl, (HKX.out.after hW).cell 2 rfl⟩
        have HBq : Hid (∀ n, Below w0.heap.size w0 (wr.drewN n)) := fun n => HQ.out.2.trans (below_draws _ n)
        have zr := HQ.out.2.size
        clear HQ HNe HKX
        go_wp2_with (first
          | (at_builtin; refine wpList_append_recs (enc := encI) rfl (.tmp 43) (.tmp 46) 27 rfl w0.heap.size 37 i0 _ 24 Try.underlying27 hi hz0 hz1 hz2 rfl (by decide) (fun _ => rfl) encI_one _ 0 [] rfl rfl (World.ownsRow_nil _ _ _ _) _ _ _ (S.take j) rfl ((HSW.out _ (HBq.out nq)).takeR j) (by rw [List.length_take]; omega) (fun h => by cases h) (by unfold maxLen; omega) (by omega) (by show w0.heap.size ≤ wr.heap.size; omega) ?_; intro v1 w5 hown1 hb1; have hown1' : w5.ownsRow w0.heap.size 37 3 v1 j (cellsL encI (S.take j)) := (by simpa using hown1); have hb5 := (HBq.out nq).trans hb1; have HO1 := Lib.hid hown1'; have HB5 := Lib.hid hb5; obtain ⟨x0', x1', x2'⟩ := HXc.out w5 hb5; have z5 := hb5.size; clear hown1 hown1' hb1 hb5 x0 x1 x2)
          | (at_builtin; refine wpList_append_own _ rfl (.tmp 48) (.tmp 50) 27 rfl w0.heap.size 37 i0 _ 3 24 Try.underlying27 hi hz0 hz1 hz2 rfl (by decide) _ j _ rfl (HO1.out.alloc _) ⟨w5.heap.size, 0, none⟩ 1 1 [.int .i64 xd, .int .i64 xn, .int .i64 xt] rfl rfl (World.news_of_block (cs := #[.int .i64 xd, .int .i64 xn, .int .i64 xt]) (t := 37) (fr := (0, 0)) (heap_alloc_new w5 _)) (by simp [Value.oneCell']) (by unfold maxLen; omega) (by omega) (by simp; omega) ?_; intro v2 w6 hown2 hgrow2 _; have hb6 : Below w0.heap.size w0 w6 := ((HB5.out).alloc z5 _).grown hgrow2 (by simp; omega) (fun k e => (own_cells HO1.out e).1); have HO2 := Lib.hid hown2; have HB6 := Lib.hid hb6; have z6 := hb6.size; clear hown2 hgrow2 hb6)
          | (at_builtin; refine wpList_append_recs (enc := encI) rfl (.tmp 52) (.tmp 55) 27 rfl w0.heap.size 37 i0 _ 24 Try.underlying27 hi hz0 hz1 hz2 rfl (by decide) (fun _ => rfl) encI_one _ (j + 1) (S.take j ++ [⟨xd, xn, xt⟩]) rfl (by simp; omega) (by rw [cellsL_snoc]; exact HO2.out) _ _ _ (S.drop j) rfl ((HSW.out _ HB6.out).dropR j) (by rw [List.length_drop]) (fun h => by cases h) (by unfold maxLen; omega) (by omega) (by omega) ?_; intro v3 w7 hown3 hb7; have HO3 := Lib.hid hown3; have HB7 := Lib.hid (HB6.out.trans hb7); clear hown3 hb7)
          | go_quiet (fail))
        have hc7 : S.take j ++ [⟨xd, xn, xt⟩] ++ S.drop j = putK It.ky S ⟨xd, xn, xt⟩ := by rw [HE.out, List.append_assoc]; rfl
        have h7 := HO3.out
        rw [hc7] at h7
        have hO : w7.ownsRow w0.heap.size 37 3 v3 (putK It.ky S ⟨xd, xn, xt⟩).length (cellsL encI (putK It.ky S ⟨xd, xn, xt⟩)) := by
          have hn : (putK It.ky S ⟨xd, xn, xt⟩).length = j + 1 + (S.length - j) := by rw [HE.out]; simp; omega
          rw [hn]
          exact h7
        obtain ⟨a', cap', rfl, hSl, hXl⟩ := sl_own (enc := encI) (fun _ => rfl) hO
        go_ret
        exact ⟨a', cap', rfl, hSl, HB0.out.trans (HB7.out.mono (by omega)), fun y e => by have := (hXl y e).1; omega⟩
    · have g0 : decide ((j : Int) < (S.length : Int)) = false := decide_eq_false (by omega)
      have g0' : decide (j < S.length) = false := decide_eq_false hlt
      have HE : Hid (putK It.ky S ⟨xd, xn, xt⟩ = S.take j ++ ⟨xd, xn, xt⟩ :: S.drop j) := putK_at j hj HQ.out.1 (fun z hz => by rw [List.getElem?_eq_none (by omega)] at hz; cases hz) HNe.out
      have hsh := hS.sh
      clear hS hK
      rcases hsh with ⟨rfl, rfl, rfl⟩ | ⟨b, o, rfl, hbl⟩
      · obtain rfl : j = 0 := by simpa using hj
        have HBq : Hid (∀ n, Below w0.heap.size w0 (wr.drewN n)) := fun n => HQ.out.2.trans (below_draws _ n)
        have zr := HQ.out.2.size
        clear HQ HNe HKX
        go_wp2_with (first
          | (at_builtin; refine wpList_append_own _ rfl (.tmp 48) (.tmp 50) 27 rfl w0.heap.size 37 i0 _ 3 24 Try.underlying27 hi hz0 hz1 hz2 rfl (by decide) (.slice none 0 0) 0 [] rfl (World.ownsRow_nil _ _ _ _) ⟨(wr.drewN nq).heap.size, 0, none⟩ 1 1 [.int .i64 xd, .int .i64 xn, .int .i64 xt] rfl rfl (World.news_of_block (cs := #[.int .i64 xd, .int .i64 xn, .int .i64 xt]) (t := 37) (fr := (0, 0)) (heap_alloc_new (wr.drewN nq) _)) (by simp [Value.oneCell']) (by unfold maxLen; omega) (by omega) (by simp; omega) ?_; intro v2 w6 hown2 hgrow2 _; have hb6 : Below w0.heap.size w0 w6 := (((HBq.out nq)).alloc (by simp; omega) _).grown hgrow2 (by simp; omega) (fun k e => by cases e); have hown2' : w6.ownsRow w0.heap.size 37 3 v2 1 (cellsL encI [⟨xd, xn, xt⟩]) := hown2; have HO2 := Lib.hid hown2'; clear hown2'; have HB6 := Lib.hid hb6; have z6 := hb6.size; clear hown2 hgrow2 hb6)
          | go_loud (at_builtin; refine wpList_append_recs (enc := encI) rfl (.tmp 52) (.tmp 55) 27 rfl w0.heap.size 37 i0 _ 24 Try.underlying27 hi hz0 hz1 hz2 rfl (by decide) (fun _ => rfl) encI_one _ 1 [⟨xd, xn, xt⟩] rfl rfl HO2.out _ _ _ [] rfl (RowsAt.nil _ _ _ _) rfl (fun _ => ⟨rfl, rfl⟩) (by unfold maxLen; omega) (by omega) (by omega) ?_; intro v3 w7 hown3 hb7; have HO3 := Lib.hid hown3; have HB7 := Lib.hid (HB6.out.trans hb7); clear hown3 hb7)
          | go_quiet (fail))
        obtain ⟨a', cap', rfl, hSl, hXl⟩ := sl_own (xs := [⟨xd, xn, xt⟩]) (enc := encI) (fun _ => rfl) HO3.out
        go_ret
        exact ⟨a', cap', rfl, hSl, HB0.out.trans (HB7.out.mono (by omega)), fun y e => by have := (hXl y e).1; omega⟩
      · by_cases hcj : j = cap
        · subst hcj
          have HSW := HSA
          have HXc : Hid (∀ W, Below w0.heap.size w0 W → W.cell? ⟨w.heap.size, 0, none⟩ = some (.int .i64 xd) ∧ W.cell? ⟨w.heap.size, 1, none⟩ = some (.int .i64 xn) ∧ W.cell? ⟨w.heap.size, 2, none⟩ = some (.int .i64 xt)) := fun W hW => ⟨(HKX.out.after hW).cell 0 rfl, (HKX.out.after hW).cell 1 rfl, (HKX.out.after hW).cell 2 rfl⟩
          have HBq : Hid (∀ n, Below w0.heap.size w0 (wr.drewN n)) := fun n => HQ.out.2.trans (below_draws _ n)
          have zr := HQ.out.2.size
          clear HQ HNe HKX
          go_wp2_with (first
            | (at_builtin; refine wpList_append_recs (enc := encI) rfl (.tmp 43) (.tmp 46) 27 rfl w0.heap.size 37 i0 _ 24 Try.underlying27 hi hz0 hz1 hz2 rfl (by decide) (fun _ => rfl) encI_one _ 0 [] rfl rfl (World.ownsRow_nil _ _ _ _) _ _ _ (S.take j) rfl ((HSW.out _ (HBq.out nq)).takeR j) (by rw [List.length_take]; omega) (fun h => by cases h) (by unfold maxLen; omega) (by omega) (by show w0.heap.size ≤ wr.heap.size; omega) ?_; intro v1 w5 hown1 hb1; have hown1' : w5.ownsRow w0.heap.size 37 3 v1 j (cellsL encI (S.take j)) := (by simpa using hown1); have hb5 := (HBq.out nq).trans hb1; have HO1 := Lib.hid hown1'; have HB5 := Lib.hid hb5; obtain ⟨x0', x1', x2'⟩ := HXc.out w5 hb5; have z5 := hb5.size; clear hown1 hown1' hb1 hb5 x0 x1 x2)
            | (at_builtin; refine wpList_append_own _ rfl (.tmp 48) (.tmp 50) 27 rfl w0.heap.size 37 i0 _ 3 24 Try.underlying27 hi hz0 hz1 hz2 rfl (by decide) _ j _ rfl (HO1.out.alloc _) ⟨w5.heap.size, 0, none⟩ 1 1 [.int .i64 xd, .int .i64 xn, .int .i64 xt] rfl rfl (World.news_of_block (cs := #[.int .i64 xd, .int .i64 xn, .int .i64 xt]) (t := 37) (fr := (0, 0)) (heap_alloc_new w5 _)) (by simp [Value.oneCell']) (by unfold maxLen; omega) (by omega) (by simp; omega) ?_; intro v2 w6 hown2 hgrow2 _; have hb6 : Below w0.heap.size w0 w6 := ((HB5.out).alloc z5 _).grown hgrow2 (by simp; omega) (fun k e => (own_cells HO1.out e).1); have HO2 := Lib.hid hown2; have HB6 := Lib.hid hb6; have z6 := hb6.size; clear hown2 hgrow2 hb6)
            | (at_builtin; refine wpList_append_recs (enc := encI) rfl (.tmp 52) (.tmp 55) 27 rfl w0.heap.size 37 i0 _ 24 Try.underlying27 hi hz0 hz1 hz2 rfl (by decide) (fun _ => rfl) encI_one _ (j + 1) (S.take j ++ [⟨xd, xn, xt⟩]) rfl (by simp; omega) (by rw [cellsL_snoc]; exact HO2.out) _ _ _ ([]) rfl (RowsAt.nil _ _ _ _) (rfl) (fun h => by cases h) (by unfold maxLen; omega) (by omega) (by omega) ?_; intro v3 w7 hown3 hb7; have HO3 := Lib.hid hown3; have HB7 := Lib.hid (HB6.out.trans hb7); clear hown3 hb7)
            | go_quiet (fail))
          have hc7 : S.take j ++ [⟨xd, xn, xt⟩] ++ [] = putK It.ky S ⟨xd, xn, xt⟩ := by rw [HE.out, List.drop_eq_nil_of_le (by omega), List.append_nil]
          have h7 := HO3.out
          rw [hc7] at h7
          have hO : w7.ownsRow w0.heap.size 37 3 v3 (putK It.ky S ⟨xd, xn, xt⟩).length (cellsL encI (putK It.ky S ⟨xd, xn, xt⟩)) := by
            have hn : (putK It.ky S ⟨xd, xn, xt⟩).length = j + 1 + 0 := by rw [HE.out]; simp; omega
            rw [hn]
            exact h7
          obtain ⟨a', cap', rfl, hSl, hXl⟩ := sl_own (enc := encI) (fun _ => rfl) hO
          go_ret
          exact ⟨a', cap', rfl, hSl, HB0.out.trans (HB7.out.mono (by omega)), fun y e => by have := (hXl y e).1; omega⟩
        · have HSW := HSA
          have HXc : Hid (∀ W, Below w0.heap.size w0 W → W.cell? ⟨w.heap.size, 0, none⟩ = some (.int .i64 xd) ∧ W.cell? ⟨w.heap.size, 1, none⟩ = some (.int .i64 xn) ∧ W.cell? ⟨w.heap.size, 2, none⟩ = some (.int .i64 xt)) := fun W hW => ⟨(HKX.out.after hW).cell 0 rfl, (HKX.out.after hW).cell 1 rfl, (HKX.out.after hW).cell 2 rfl⟩
          have HBq : Hid (∀ n, Below w0.heap.size w0 (wr.drewN n)) := fun n => HQ.out.2.trans (below_draws _ n)
          have zr := HQ.out.2.size
          clear HQ HNe HKX
          go_wp2_with (first
            | (at_builtin; refine wpList_append_recs (enc := encI) rfl (.tmp 43) (.tmp 46) 27 rfl w0.heap.size 37 i0 _ 24 Try.underlying27 hi hz0 hz1 hz2 rfl (by decide) (fun _ => rfl) encI_one _ 0 [] rfl rfl (World.ownsRow_nil _ _ _ _) _ _ _ (S.take j) rfl ((HSW.out _ (HBq.out nq)).takeR j) (by rw [List.length_take]; omega) (fun h => by cases h) (by unfold maxLen; omega) (by omega) (by show w0.heap.size ≤ wr.heap.size; omega) ?_; intro v1 w5 hown1 hb1; have hown1' : w5.ownsRow w0.heap.size 37 3 v1 j (cellsL encI (S.take j)) := (by simpa using hown1); have hb5 := (HBq.out nq).trans hb1; have HO1 := Lib.hid hown1'; have HB5 := Lib.hid hb5; obtain ⟨x0', x1', x2'⟩ := HXc.out w5 hb5; have z5 := hb5.size; clear hown1 hown1' hb1 hb5 x0 x1 x2)
            | (at_builtin; refine wpList_append_own _ rfl (.tmp 48) (.tmp 50) 27 rfl w0.heap.size 37 i0 _ 3 24 Try.underlying27 hi hz0 hz1 hz2 rfl (by decide) _ j _ rfl (HO1.out.alloc _) ⟨w5.heap.size, 0, none⟩ 1 1 [.int .i64 xd, .int .i64 xn, .int .i64 xt] rfl rfl (World.news_of_block (cs := #[.int .i64 xd, .int .i64 xn, .int .i64 xt]) (t := 37) (fr := (0, 0)) (heap_alloc_new w5 _)) (by simp [Value.oneCell']) (by unfold maxLen; omega) (by omega) (by simp; omega) ?_; intro v2 w6 hown2 hgrow2 _; have hb6 : Below w0.heap.size w0 w6 := ((HB5.out).alloc z5 _).grown hgrow2 (by simp; omega) (fun k e => (own_cells HO1.out e).1); have HO2 := Lib.hid hown2; have HB6 := Lib.hid hb6; have z6 := hb6.size; clear hown2 hgrow2 hb6)
            | (at_builtin; refine wpList_append_recs (enc := encI) rfl (.tmp 52) (.tmp 55) 27 rfl w0.heap.size 37 i0 _ 24 Try.underlying27 hi hz0 hz1 hz2 rfl (by decide) (fun _ => rfl) encI_one _ (j + 1) (S.take j ++ [⟨xd, xn, xt⟩]) rfl (by simp; omega) (by rw [cellsL_snoc]; exact HO2.out) _ _ _ (S.drop j) rfl ((HSW.out _ HB6.out).dropR j) (by rw [List.length_drop]) (fun h => by cases h) (by unfold maxLen; omega) (by omega) (by omega) ?_; intro v3 w7 hown3 hb7; have HO3 := Lib.hid hown3; have HB7 := Lib.hid (HB6.out.trans hb7); clear hown3 hb7)
            | go_quiet (fail))
          have hc7 : S.take j ++ [⟨xd, xn, xt⟩] ++ S.drop j = putK It.ky S ⟨xd, xn, xt⟩ := by rw [HE.out, List.append_assoc]; rfl
          have h7 := HO3.out
          rw [hc7] at h7
          have hO : w7.ownsRow w0.heap.size 37 3 v3 (putK It.ky S ⟨xd, xn, xt⟩).length (cellsL encI (putK It.ky S ⟨xd, xn, xt⟩)) := by
            have hn : (putK It.ky S ⟨xd, xn, xt⟩).length = j + 1 + (S.length - j) := by rw [HE.out]; simp; omega
            rw [hn]
            exact h7
          obtain ⟨a', cap', rfl, hSl, hXl⟩ := sl_own (enc := encI) (fun _ => rfl) hO
          go_ret
          exact ⟨a', cap', rfl, hSl, HB0.out.trans (HB7.out.mono (by omega)), fun y e => by have := (hXl y e).1; omega⟩

end Go.Proofs.Ytgcncnmkfpfccaa
