/- The document's put. -/
import Derived.Test.YtmjgcenhgpkhiaaAdU
namespace Go.Proofs.Ytmjgcenhgpkhiaa
open Go.RowKit Go.Sort Go.Shelf
set_option linter.unusedVariables false
set_option linter.unusedSimpArgs false

/-- What 'put' leaves. -/
def PutG (w : World) (A : List Cg) (e : Ending) (w' : World) : Prop :=
  ∃ a cap, e = .returned (.slice a A.length cap) ∧ SlAt w' 5 encG a cap A ∧ Below w.heap.size w w'
set_option maxHeartbeats 4000000 in
set_option maxRecDepth 100000 in
theorem put_ok (a : Option Addr) (cap : Nat) (S : List Cg) (x : Cg) (w : World) (h : SlAt w 5 encG a cap S) (hl : S.length ≤ 1000) (hne : ∀ z ∈ S, z.ky ≠ x.ky) :
    Calls Try.prog 24 #[.slice a S.length cap, .agg (encG x).toArray] w (PutG w (putK Cg.ky S x)) := by
  obtain ⟨i0, hi, hz0, hz1, hz2⟩ := info_parts infoRc
  obtain ⟨xn, xd, xc, xo, xw⟩ := x
  dsimp only [encG]
  have H := Lib.hid h
  have HNe := Lib.hid hne
  obtain ⟨w0, hw0⟩ : ∃ W, w.alloc (.cells #[.int .i64 xn, .int .i64 xd, .int .i64 xc, .int .i64 xo, .int .i64 xw] 39) = W := ⟨_, rfl⟩
  have hb0 : Below w.heap.size w w0 := by rw [← hw0]; exact (Below.refl _ _).alloc (Nat.le_refl _) _
  have kx : Blk w0 w.heap.size #[.int .i64 xn, .int .i64 xd, .int .i64 xc, .int .i64 xo, .int .i64 xw] 39 := by rw [← hw0]; exact Blk.new _ _ _
  have z0 : w0.heap.size = w.heap.size + 1 := by rw [← hw0]; simp
  have HB0 := Lib.hid hb0
  have HKX := Lib.hid kx
  have HW0 := Lib.hid hw0
  have HSW : Hid (∀ W, Below w0.heap.size w0 W → RecsAt W a 5 encG S) := fun W hW => (H.out.after (hb0.trans (hW.mono (by omega)))).recs
  have hcap := h.le
  have hcm := h.max
  unfold maxLen at hcm
  clear h hne hw0 hb0 kx
  go_enter Try.func24, Try.ntmps24
  go_wp2_with fail
  rw [HW0.out]
  go_loopw [5] (fun i wr => ∃ j : Nat, j ≤ S.length ∧ i = .int .i64 j ∧ Hid ((∀ i, i < j → ∀ z, S[i]? = some z → ltK z.ky (xd, xc)) ∧ Below w0.heap.size w0 wr)) (fun i _ => S.length - (intOf i).toNat)
  case atStart => exact ⟨0, by omega, rfl, fun i hi => absurd hi (by omega), Below.refl _ _⟩
  case round =>
    obtain ⟨j, hj, rfl, HQ⟩ := hrel
    have hK := HKX.out.after HQ.out.2
    have x0 : wr.cell? ⟨w.heap.size, 0, none⟩ = some (.int .i64 xn) := hK.cell 0 rfl
    have x1 : wr.cell? ⟨w.heap.size, 1, none⟩ = some (.int .i64 xd) := hK.cell 1 rfl
    have x2 : wr.cell? ⟨w.heap.size, 2, none⟩ = some (.int .i64 xc) := hK.cell 2 rfl
    have x3 : wr.cell? ⟨w.heap.size, 3, none⟩ = some (.int .i64 xo) := hK.cell 3 rfl
    have x4 : wr.cell? ⟨w.heap.size, 4, none⟩ = some (.int .i64 xw) := hK.cell 4 rfl
    have hS := (H.out.after HB0.out).after HQ.out.2
    have i1 : (0 : Int) ≤ (j : Int) := by omega
    by_cases hlt : j < S.length
    · obtain ⟨x, hy⟩ : ∃ x, S[j]'hlt = x := ⟨_, rfl⟩
      have hx : S[j]? = some x := by rw [← hy]; exact List.getElem?_eq_getElem hlt
      have hR := hS.recs
      rcases hS.sh with ⟨rfl, rfl, rfl⟩ | ⟨b, o, rfl, hbl⟩
      · exact absurd hlt (by simp)
      obtain ⟨yn, yd, yc, yo, yw⟩ := x
      have p1 : wr.cell? ⟨b, o + j * 5 + 1, none⟩ = some (.int .i64 yd) := RecsAt.cell hR rfl hlt hx (j := 1) rfl
      have p2 : wr.cell? ⟨b, o + j * 5 + 2, none⟩ = some (.int .i64 yc) := RecsAt.cell hR rfl hlt hx (j := 2) rfl
      have i2 : (j : Int) < (S.length : Int) := by omega
      have g0 : decide ((j : Int) < (S.length : Int)) = true := decide_eq_true (by omega)
      have g0' : decide (j < S.length) = true := decide_eq_true hlt
      obtain ⟨B, hB⟩ : ∃ B : Bool, B = true ↔ ltK (yd, yc) (xd, xc) := by
        by_cases h : ltK (yd, yc) (xd, xc)
        · exact ⟨true, by simp [h]⟩
        · exact ⟨false, by simp [h]⟩
      have HA : Hid (∀ n, Calls Try.prog 19 #[.int .i64 yd, .int .i64 yc, .int .i64 xd, .int .i64 xc] (wr.drewN n) fun e w' => e = .returned (.bool B) ∧ ∃ m, w' = (wr.drewN n).drewN m) := fun n => (ahead_ok yd yc xd xc B hB _).mono fun e w' h => ⟨h.1, 0, h.2⟩
      cases B with
      | true =>
        have HN : Hid (∀ i, i < j + 1 → ∀ z, S[i]? = some z → ltK z.ky (xd, xc)) := fun i hi z hz => by
          rcases Nat.lt_or_ge i j with h | h
          · exact HQ.out.1 i h z hz
          · obtain rfl : i = j := by omega
            rw [hx] at hz
            cases hz
            exact hB.1 rfl
        clear hB hx hy hR hS hK
        go_wp2_with (go_quiet (with_reducible exact Calls.quiet_of (HA.out _)))
        go_roundw
        case rel => exact ⟨j + 1, by omega, by go_num, HN.out, HQ.out.2.trans (below_draws _ nq)⟩
        case measure => simp [intOf]; omega
      | false =>
        have HE : Hid (putK Cg.ky S ⟨xn, xd, xc, xo, xw⟩ = S.take j ++ ⟨xn, xd, xc, xo, xw⟩ :: S.drop j) := putK_first j hj HQ.out.1 (fun z hz => by rw [hx] at hz; cases hz; exact fun h => Bool.false_ne_true (hB.2 h)) HNe.out
        clear hB hx hy hR hS hK
        have HXc : Hid (∀ W, Below w0.heap.size w0 W → W.cell? ⟨w.heap.size, 0, none⟩ = some (.int .i64 xn) ∧ W.cell? ⟨w.heap.size, 1, none⟩ = some (.int .i64 xd) ∧ W.cell? ⟨w.heap.size, 2, none⟩ = some (.int .i64 xc) ∧ W.cell? ⟨w.heap.size, 3, none⟩ = some (.int .i64 xo) ∧ W.cell? ⟨w.heap.size, 4, none⟩ = some (.int .i64 xw)) := fun W hW => ⟨(HKX.out.after hW).cell 0 rfl, (HKX.out.after hW).cell 1 rfl, (HKX.out.after hW).cell 2 rfl, (HKX.out.after hW).cell 3 rfl, (HKX.out.after hW).cell 4 rfl⟩
        have HBq : Hid (∀ n, Below w0.heap.size w0 (wr.drewN n)) := fun n => HQ.out.2.trans (below_draws _ n)
        have zr := HQ.out.2.size
        clear HQ HNe HKX
        go_wp2_with (first
          | (at_builtin; refine wpList_append_recs (enc := encG) rfl (.tmp 30) (.tmp 33) 35 rfl w0.heap.size 39 i0 _ 40 Try.underlying35 hi hz0 hz1 hz2 rfl (by decide) (fun _ => rfl) encG_one _ 0 [] rfl rfl (World.ownsRow_nil _ _ _ _) _ _ _ (S.take j) rfl ((HSW.out _ (HBq.out nq)).takeR j) (by rw [List.length_take]; omega) (fun h => by cases h) (by unfold maxLen; omega) (by omega) (by show w0.heap.size ≤ wr.heap.size; omega) ?_; intro v1 w5 hown1 hb1; have hown1' : w5.ownsRow w0.heap.size 39 5 v1 j (cellsL encG (S.take j)) := (by simpa using hown1); have hb5 := (HBq.out nq).trans hb1; have HO1 := Lib.hid hown1'; have HB5 := Lib.hid hb5; obtain ⟨x0', x1', x2', x3', x4'⟩ := HXc.out w5 hb5; have z5 := hb5.size; clear hown1 hown1' hb1 hb5 x0 x1 x2 x3 x4)
          | (at_builtin; refine wpList_append_own _ rfl (.tmp 35) (.tmp 37) 35 rfl w0.heap.size 39 i0 _ 5 40 Try.underlying35 hi hz0 hz1 hz2 rfl (by decide) _ j _ rfl (HO1.out.alloc _) ⟨w5.heap.size, 0, none⟩ 1 1 [.int .i64 xn, .int .i64 xd, .int .i64 xc, .int .i64 xo, .int .i64 xw] rfl rfl (World.news_of_block (cs := #[.int .i64 xn, .int .i64 xd, .int .i64 xc, .int .i64 xo, .int .i64 xw]) (t := 39) (fr := (0, 0)) (heap_alloc_new w5 _)) (by simp [Value.oneCell']) (by unfold maxLen; omega) (by omega) (by simp; omega) ?_; intro v2 w6 hown2 hgrow2 _; have hb6 : Below w0.heap.size w0 w6 := ((HB5.out).alloc z5 _).grown hgrow2 (by simp; omega) (fun k e => (own_cells HO1.out e).1); have HO2 := Lib.hid hown2; have HB6 := Lib.hid hb6; have z6 := hb6.size; clear hown2 hgrow2 hb6)
          | (at_builtin; refine wpList_append_recs (enc := encG) rfl (.tmp 39) (.tmp 42) 35 rfl w0.heap.size 39 i0 _ 40 Try.underlying35 hi hz0 hz1 hz2 rfl (by decide) (fun _ => rfl) encG_one _ (j + 1) (S.take j ++ [⟨xn, xd, xc, xo, xw⟩]) rfl (by simp; omega) (by rw [cellsL_snoc]; exact HO2.out) _ _ _ (S.drop j) rfl ((HSW.out _ HB6.out).dropR j) (by rw [List.length_drop]) (fun h => by cases h) (by unfold maxLen; omega) (by omega) (by omega) ?_; intro v3 w7 hown3 hb7; have HO3 := Lib.hid hown3; have HB7 := Lib.hid (HB6.out.trans hb7); clear hown3 hb7)
          | go_quiet (with_reducible exact Calls.quiet_of (HA.out _)))
        have hc7 : S.take j ++ [⟨xn, xd, xc, xo, xw⟩] ++ S.drop j = putK Cg.ky S ⟨xn, xd, xc, xo, xw⟩ := by rw [HE.out, List.append_assoc]; rfl
        have h7 := HO3.out
        rw [hc7] at h7
        have hO : w7.ownsRow w0.heap.size 39 5 v3 (putK Cg.ky S ⟨xn, xd, xc, xo, xw⟩).length (cellsL encG (putK Cg.ky S ⟨xn, xd, xc, xo, xw⟩)) := by
          have hn : (putK Cg.ky S ⟨xn, xd, xc, xo, xw⟩).length = j + 1 + (S.length - j) := by rw [HE.out]; simp; omega
          rw [hn]
          exact h7
        obtain ⟨a', cap', rfl, hSl, hXl⟩ := sl_own (enc := encG) (fun _ => rfl) hO
        go_ret
        exact ⟨a', cap', rfl, hSl, HB0.out.trans (HB7.out.mono (by omega))⟩
    · have g0 : decide ((j : Int) < (S.length : Int)) = false := decide_eq_false (by omega)
      have g0' : decide (j < S.length) = false := decide_eq_false hlt
      have HE : Hid (putK Cg.ky S ⟨xn, xd, xc, xo, xw⟩ = S.take j ++ ⟨xn, xd, xc, xo, xw⟩ :: S.drop j) := putK_first j hj HQ.out.1 (fun z hz => by rw [List.getElem?_eq_none (by omega)] at hz; cases hz) HNe.out
      have hsh := hS.sh
      clear hS hK
      rcases hsh with ⟨rfl, rfl, rfl⟩ | ⟨b, o, rfl, hbl⟩
      · obtain rfl : j = 0 := by simpa using hj
        have HBq : Hid (∀ n, Below w0.heap.size w0 (wr.drewN n)) := fun n => HQ.out.2.trans (below_draws _ n)
        have zr := HQ.out.2.size
        clear HQ HNe HKX
        go_wp2_with (first
          | (at_builtin; refine wpList_append_own _ rfl (.tmp 35) (.tmp 37) 35 rfl w0.heap.size 39 i0 _ 5 40 Try.underlying35 hi hz0 hz1 hz2 rfl (by decide) (.slice none 0 0) 0 [] rfl (World.ownsRow_nil _ _ _ _) ⟨(wr.drewN nq).heap.size, 0, none⟩ 1 1 [.int .i64 xn, .int .i64 xd, .int .i64 xc, .int .i64 xo, .int .i64 xw] rfl rfl (World.news_of_block (cs := #[.int .i64 xn, .int .i64 xd, .int .i64 xc, .int .i64 xo, .int .i64 xw]) (t := 39) (fr := (0, 0)) (heap_alloc_new (wr.drewN nq) _)) (by simp [Value.oneCell']) (by unfold maxLen; omega) (by omega) (by simp; omega) ?_; intro v2 w6 hown2 hgrow2 _; have hb6 : Below w0.heap.size w0 w6 := (((HBq.out nq)).alloc (by simp; omega) _).grown hgrow2 (by simp; omega) (fun k e => by cases e); have hown2' : w6.ownsRow w0.heap.size 39 5 v2 1 (cellsL encG [⟨xn, xd, xc, xo, xw⟩]) := hown2; have HO2 := Lib.hid hown2'; clear hown2'; have HB6 := Lib.hid hb6; have z6 := hb6.size; clear hown2 hgrow2 hb6)
          | (at_builtin; refine wpList_append_recs (enc := encG) rfl (.tmp 39) (.tmp 42) 35 rfl w0.heap.size 39 i0 _ 40 Try.underlying35 hi hz0 hz1 hz2 rfl (by decide) (fun _ => rfl) encG_one _ 1 [⟨xn, xd, xc, xo, xw⟩] rfl rfl HO2.out _ _ _ [] rfl (RowsAt.nil _ _ _ _) rfl (fun _ => ⟨rfl, rfl⟩) (by unfold maxLen; omega) (by omega) (by omega) ?_; intro v3 w7 hown3 hb7; have HO3 := Lib.hid hown3; have HB7 := Lib.hid (HB6.out.trans hb7); clear hown3 hb7)
          | go_quiet (fail))
        obtain ⟨a', cap', rfl, hSl, hXl⟩ := sl_own (xs := [⟨xn, xd, xc, xo, xw⟩]) (enc := encG) (fun _ => rfl) HO3.out
        go_ret
        exact ⟨a', cap', rfl, hSl, HB0.out.trans (HB7.out.mono (by omega))⟩
      · by_cases hcj : j = cap
        · subst hcj
          have HXc : Hid (∀ W, Below w0.heap.size w0 W → W.cell? ⟨w.heap.size, 0, none⟩ = some (.int .i64 xn) ∧ W.cell? ⟨w.heap.size, 1, none⟩ = some (.int .i64 xd) ∧ W.cell? ⟨w.heap.size, 2, none⟩ = some (.int .i64 xc) ∧ W.cell? ⟨w.heap.size, 3, none⟩ = some (.int .i64 xo) ∧ W.cell? ⟨w.heap.size, 4, none⟩ = some (.int .i64 xw)) := fun W hW => ⟨(HKX.out.after hW).cell 0 rfl, (HKX.out.after hW).cell 1 rfl, (HKX.out.after hW).cell 2 rfl, (HKX.out.after hW).cell 3 rfl, (HKX.out.after hW).cell 4 rfl⟩
          have HBq : Hid (∀ n, Below w0.heap.size w0 (wr.drewN n)) := fun n => HQ.out.2.trans (below_draws _ n)
          have zr := HQ.out.2.size
          clear HQ HNe HKX
          go_wp2_with (first
            | (at_builtin; refine wpList_append_recs (enc := encG) rfl (.tmp 30) (.tmp 33) 35 rfl w0.heap.size 39 i0 _ 40 Try.underlying35 hi hz0 hz1 hz2 rfl (by decide) (fun _ => rfl) encG_one _ 0 [] rfl rfl (World.ownsRow_nil _ _ _ _) _ _ _ (S.take j) rfl ((HSW.out _ (HBq.out nq)).takeR j) (by rw [List.length_take]; omega) (fun h => by cases h) (by unfold maxLen; omega) (by omega) (by show w0.heap.size ≤ wr.heap.size; omega) ?_; intro v1 w5 hown1 hb1; have hown1' : w5.ownsRow w0.heap.size 39 5 v1 j (cellsL encG (S.take j)) := (by simpa using hown1); have hb5 := (HBq.out nq).trans hb1; have HO1 := Lib.hid hown1'; have HB5 := Lib.hid hb5; obtain ⟨x0', x1', x2', x3', x4'⟩ := HXc.out w5 hb5; have z5 := hb5.size; clear hown1 hown1' hb1 hb5 x0 x1 x2 x3 x4)
            | (at_builtin; refine wpList_append_own _ rfl (.tmp 35) (.tmp 37) 35 rfl w0.heap.size 39 i0 _ 5 40 Try.underlying35 hi hz0 hz1 hz2 rfl (by decide) _ j _ rfl (HO1.out.alloc _) ⟨w5.heap.size, 0, none⟩ 1 1 [.int .i64 xn, .int .i64 xd, .int .i64 xc, .int .i64 xo, .int .i64 xw] rfl rfl (World.news_of_block (cs := #[.int .i64 xn, .int .i64 xd, .int .i64 xc, .int .i64 xo, .int .i64 xw]) (t := 39) (fr := (0, 0)) (heap_alloc_new w5 _)) (by simp [Value.oneCell']) (by unfold maxLen; omega) (by omega) (by simp; omega) ?_; intro v2 w6 hown2 hgrow2 _; have hb6 : Below w0.heap.size w0 w6 := ((HB5.out).alloc z5 _).grown hgrow2 (by simp; omega) (fun k e => (own_cells HO1.out e).1); have HO2 := Lib.hid hown2; have HB6 := Lib.hid hb6; have z6 := hb6.size; clear hown2 hgrow2 hb6)
            | (at_builtin; refine wpList_append_recs (enc := encG) rfl (.tmp 39) (.tmp 42) 35 rfl w0.heap.size 39 i0 _ 40 Try.underlying35 hi hz0 hz1 hz2 rfl (by decide) (fun _ => rfl) encG_one _ (j + 1) (S.take j ++ [⟨xn, xd, xc, xo, xw⟩]) rfl (by simp; omega) (by rw [cellsL_snoc]; exact HO2.out) _ _ _ ([]) rfl (RowsAt.nil _ _ _ _) (rfl) (fun h => by cases h) (by unfold maxLen; omega) (by omega) (by omega) ?_; intro v3 w7 hown3 hb7; have HO3 := Lib.hid hown3; have HB7 := Lib.hid (HB6.out.trans hb7); clear hown3 hb7)
            | go_quiet (fail))
          have hc7 : S.take j ++ [⟨xn, xd, xc, xo, xw⟩] ++ [] = putK Cg.ky S ⟨xn, xd, xc, xo, xw⟩ := by rw [HE.out, List.drop_eq_nil_of_le (by omega), List.append_nil]
          have h7 := HO3.out
          rw [hc7] at h7
          have hO : w7.ownsRow w0.heap.size 39 5 v3 (putK Cg.ky S ⟨xn, xd, xc, xo, xw⟩).length (cellsL encG (putK Cg.ky S ⟨xn, xd, xc, xo, xw⟩)) := by
            have hn : (putK Cg.ky S ⟨xn, xd, xc, xo, xw⟩).length = j + 1 + 0 := by rw [HE.out]; simp; omega
            rw [hn]
            exact h7
          obtain ⟨a', cap', rfl, hSl, hXl⟩ := sl_own (enc := encG) (fun _ => rfl) hO
          go_ret
          exact ⟨a', cap', rfl, hSl, HB0.out.trans (HB7.out.mono (by omega))⟩
        · have HXc : Hid (∀ W, Below w0.heap.size w0 W → W.cell? ⟨w.heap.size, 0, none⟩ = some (.int .i64 xn) ∧ W.cell? ⟨w.heap.size, 1, none⟩ = some (.int .i64 xd) ∧ W.cell? ⟨w.heap.size, 2, none⟩ = some (.int .i64 xc) ∧ W.cell? ⟨w.heap.size, 3, none⟩ = some (.int .i64 xo) ∧ W.cell? ⟨w.heap.size, 4, none⟩ = some (.int .i64 xw)) := fun W hW => ⟨(HKX.out.after hW).cell 0 rfl, (HKX.out.after hW).cell 1 rfl, (HKX.out.after hW).cell 2 rfl, (HKX.out.after hW).cell 3 rfl, (HKX.out.after hW).cell 4 rfl⟩
          have HBq : Hid (∀ n, Below w0.heap.size w0 (wr.drewN n)) := fun n => HQ.out.2.trans (below_draws _ n)
          have zr := HQ.out.2.size
          clear HQ HNe HKX
          go_wp2_with (first
            | (at_builtin; refine wpList_append_recs (enc := encG) rfl (.tmp 30) (.tmp 33) 35 rfl w0.heap.size 39 i0 _ 40 Try.underlying35 hi hz0 hz1 hz2 rfl (by decide) (fun _ => rfl) encG_one _ 0 [] rfl rfl (World.ownsRow_nil _ _ _ _) _ _ _ (S.take j) rfl ((HSW.out _ (HBq.out nq)).takeR j) (by rw [List.length_take]; omega) (fun h => by cases h) (by unfold maxLen; omega) (by omega) (by show w0.heap.size ≤ wr.heap.size; omega) ?_; intro v1 w5 hown1 hb1; have hown1' : w5.ownsRow w0.heap.size 39 5 v1 j (cellsL encG (S.take j)) := (by simpa using hown1); have hb5 := (HBq.out nq).trans hb1; have HO1 := Lib.hid hown1'; have HB5 := Lib.hid hb5; obtain ⟨x0', x1', x2', x3', x4'⟩ := HXc.out w5 hb5; have z5 := hb5.size; clear hown1 hown1' hb1 hb5 x0 x1 x2 x3 x4)
            | (at_builtin; refine wpList_append_own _ rfl (.tmp 35) (.tmp 37) 35 rfl w0.heap.size 39 i0 _ 5 40 Try.underlying35 hi hz0 hz1 hz2 rfl (by decide) _ j _ rfl (HO1.out.alloc _) ⟨w5.heap.size, 0, none⟩ 1 1 [.int .i64 xn, .int .i64 xd, .int .i64 xc, .int .i64 xo, .int .i64 xw] rfl rfl (World.news_of_block (cs := #[.int .i64 xn, .int .i64 xd, .int .i64 xc, .int .i64 xo, .int .i64 xw]) (t := 39) (fr := (0, 0)) (heap_alloc_new w5 _)) (by simp [Value.oneCell']) (by unfold maxLen; omega) (by omega) (by simp; omega) ?_; intro v2 w6 hown2 hgrow2 _; have hb6 : Below w0.heap.size w0 w6 := ((HB5.out).alloc z5 _).grown hgrow2 (by simp; omega) (fun k e => (own_cells HO1.out e).1); have HO2 := Lib.hid hown2; have HB6 := Lib.hid hb6; have z6 := hb6.size; clear hown2 hgrow2 hb6)
            | (at_builtin; refine wpList_append_recs (enc := encG) rfl (.tmp 39) (.tmp 42) 35 rfl w0.heap.size 39 i0 _ 40 Try.underlying35 hi hz0 hz1 hz2 rfl (by decide) (fun _ => rfl) encG_one _ (j + 1) (S.take j ++ [⟨xn, xd, xc, xo, xw⟩]) rfl (by simp; omega) (by rw [cellsL_snoc]; exact HO2.out) _ _ _ (S.drop j) rfl ((HSW.out _ HB6.out).dropR j) (by rw [List.length_drop]) (fun h => by cases h) (by unfold maxLen; omega) (by omega) (by omega) ?_; intro v3 w7 hown3 hb7; have HO3 := Lib.hid hown3; have HB7 := Lib.hid (HB6.out.trans hb7); clear hown3 hb7)
            | go_quiet (fail))
          have hc7 : S.take j ++ [⟨xn, xd, xc, xo, xw⟩] ++ S.drop j = putK Cg.ky S ⟨xn, xd, xc, xo, xw⟩ := by rw [HE.out, List.append_assoc]; rfl
          have h7 := HO3.out
          rw [hc7] at h7
          have hO : w7.ownsRow w0.heap.size 39 5 v3 (putK Cg.ky S ⟨xn, xd, xc, xo, xw⟩).length (cellsL encG (putK Cg.ky S ⟨xn, xd, xc, xo, xw⟩)) := by
            have hn : (putK Cg.ky S ⟨xn, xd, xc, xo, xw⟩).length = j + 1 + (S.length - j) := by rw [HE.out]; simp; omega
            rw [hn]
            exact h7
          obtain ⟨a', cap', rfl, hSl, hXl⟩ := sl_own (enc := encG) (fun _ => rfl) hO
          go_ret
          exact ⟨a', cap', rfl, hSl, HB0.out.trans (HB7.out.mono (by omega))⟩

end Go.Proofs.Ytmjgcenhgpkhiaa
