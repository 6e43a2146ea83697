/- chattelref01.Split: the walk. -/
import Derived.Test.YtncodoaphfeefaaSpB
import Derived.Deep.CutRange
import Derived.Deep.AppendLies
namespace Go.Proofs.Ytncodoaphfeefaa
open Go.RowKit Go.Shelf Go.Sort
set_option linter.unusedVariables false
set_option linter.unusedSimpArgs false

theorem infoBig : (Try.prog.info? 29).map (fun i => (i.zero, i.size, i.bytes)) = some (some (.agg #[.bool false, .slice none 0 0]), 2, 32) := by kernel_rfl
/-- Behind the region that parts: its two numbers lie in boxes. -/
structure PartR (wr : World) (Q R : Nat) (v10 v11 : Value) (wx : World) : Prop where
  ex : ∃ Dq Dr qa ql qc ra rl rc, v10 = .pointer (some ⟨Dq, 0, none⟩) ∧ v11 = .pointer (some ⟨Dr, 0, none⟩) ∧ Blk wx Dq #[.bool false, .slice qa ql qc] 29 ∧ Blk wx Dr #[.bool false, .slice ra rl rc] 29 ∧ BigAt wx Q false qa ql qc ∧ BigAt wx R false ra rl rc ∧ (∀ y, ra = some y → wr.heap.size ≤ y.block)
  be : Below wr.heap.size wr wx

theorem cut_of {P Q : Prop} (h : P) (k : P → Q) : Q := k h
theorem bel_alloc {w w' : World} (h : Below w.heap.size w w') (o : Obj) : Below w.heap.size w (w'.alloc o) := h.alloc h.size o
theorem bel_set {w w' : World} {D : Nat} (h : Below w.heap.size w w') (hD : w.heap.size ≤ D) (j : Nat) (v : Value) : Below w.heap.size w (w'.setCell ⟨D, j, none⟩ v) := h.setCell (p := ⟨D, j, none⟩) hD v
theorem big_alloc {w : World} {z : Int} {s : Bool} {a : Option Addr} {l c : Nat} (h : BigAt w z s a l c) (o : Obj) : BigAt (w.alloc o) z s a l c := h.after ((Below.refl _ _).alloc (Nat.le_refl _) _)
theorem big_set {w : World} {z : Int} {s : Bool} {a : Option Addr} {l c D j : Nat} {v : Value} (h : BigAt w z s a l c) (hn : ∀ x, a = some x → D < x.block) : BigAt (w.setCell ⟨D, j, none⟩ v) z s a l c :=
  h.grown (grown_setCell _ _ _ _) fun x e => by have := hn x e; simp; omega
theorem blk_new2 (w : World) (o : Obj) (cs : Array Value) (T : TypeId) : Blk ((w.alloc o).alloc (.cells cs T)) (w.heap.size + 1) cs T := by
  have := Blk.new (w.alloc o) cs T
  simpa using this
theorem blk_newD {w : World} {D : Nat} {cs : Array Value} {T : TypeId} (h : D = w.heap.size) : Blk (w.alloc (.cells cs T)) D cs T := by
  rw [h]
  exact Blk.new _ _ _
theorem blk_set2 {w : World} {D : Nat} {T : TypeId} (h : Blk w D #[.bool false, .slice none 0 0] T) (u v : Value) : Blk ((w.setCell ⟨D, 0, none⟩ u).setCell ⟨D, 1, none⟩ v) D #[u, v] T := (h.set 0 _).set 1 _
theorem natAbs_mul2 (T : Nat) (x : Int) (h : 0 ≤ x) : ((T : Int) * x).natAbs = T * x.toNat := by
  rw [Int.natAbs_mul, Int.natAbs_natCast]
  congr 1
  omega
theorem of_at (z : Int) (h1 : -9223372036854775808 ≤ z) (h2 : z ≤ 9223372036854775807) (wr : World) : ∀ W, Below wr.heap.size wr W → Calls Try.prog 14 #[.int .i64 z] W fun e w' => ∃ s a l c, e = .returned (.agg #[.bool s, .slice a l c]) ∧ BigAt w' z s a l c ∧ Below wr.heap.size wr w' ∧ Below W.heap.size W w' := fun W hW => by
  refine (of_big z h1 h2 W).mono ?_
  rintro e w' ⟨s, a, l, c, rfl, hB, hb, _⟩
  exact ⟨s, a, l, c, rfl, hB, hW.trans (hb.mono hW.size), hb⟩
theorem mul_at (x y : Int) (h1 : blen x.natAbs ≤ 64) (h2 : blen y.natAbs ≤ 64) (wr : World) : ∀ W s a l c s' a' l' c', Below wr.heap.size wr W → BigAt W x s a l c → BigAt W y s' a' l' c' → Calls Try.prog 13 #[.agg #[.bool s, .slice a l c], .agg #[.bool s', .slice a' l' c']] W fun e w' => ∃ s a l c, e = .returned (.agg #[.bool s, .slice a l c]) ∧ BigAt w' (x * y) s a l c ∧ Below wr.heap.size wr w' ∧ Below W.heap.size W w' := fun W s a l c s' a' l' c' hW g1 g2 => by
  refine (mul_big x y s s' a a' l l' c c' W g1 g2 (by omega) (by omega)).mono ?_
  rintro e w' ⟨s, a, l, c, rfl, hB, hb, _⟩
  exact ⟨s, a, l, c, rfl, hB, hW.trans (hb.mono hW.size), hb⟩
theorem parts_at (x y z : Int) (Q R : Nat) (h1 : blen x.natAbs ≤ 64) (h2 : blen y.natAbs ≤ 64) (h3 : blen z.natAbs ≤ 64) (hz : z ≠ 0) (hq : (x * y).natAbs / z.natAbs = Q) (hr : (x * y).natAbs % z.natAbs = R) (wr : World) (s5 : Bool) (a5 : Option Addr) (l5 c5 : Nat) (g5 : BigAt wr z s5 a5 l5 c5) : ∀ W s a l c, Below wr.heap.size wr W → BigAt W (x * y) s a l c → Calls Try.prog 29 #[.agg #[.bool s, .slice a l c], .agg #[.bool s5, .slice a5 l5 c5]] W fun e w' => ∃ qa ql qc ra rl rc, e = .returned (.tuple #[.agg #[.bool false, .slice qa ql qc], .agg #[.bool false, .slice ra rl rc]]) ∧ BigAt w' Q false qa ql qc ∧ BigAt w' R false ra rl rc ∧ Below wr.heap.size wr w' ∧ Below W.heap.size W w' ∧ (∀ x, qa = some x → W.heap.size ≤ x.block) ∧ (∀ x, ra = some x → W.heap.size ≤ x.block) ∧ (∀ x, ra = some x → wr.heap.size ≤ x.block) := fun W s a l c hW g => by
  have hm := len_mul h1 h2
  refine (parts_big (x * y) z s s5 a a5 l l5 c c5 W g (g5.after hW) (by omega) (by omega) hz).mono ?_
  rw [hq, hr]
  rintro e w' ⟨qa, ql, qc, ra, rl, rc, rfl, g1, g2, hb, f1, f2⟩
  exact ⟨qa, ql, qc, ra, rl, rc, rfl, g1, g2, hW.trans (hb.mono hW.size), hb, f1, f2, fun x e => Nat.le_trans hW.size (f2 x e)⟩
theorem own_blocks {w : World} {b b' s s' n n' g g' c c' : Nat} {e e' : TypeId} {xs xs' : List Value} (h : w.ownsRow b e s (.slice (some ⟨g, 0, none⟩) n c) n xs) (h' : w.ownsRow b' e' s' (.slice (some ⟨g', 0, none⟩) n' c') n' xs') (hne : e ≠ e') : g ≠ g' := by
  rcases h.2 with ⟨e0, _⟩ | ⟨g1, c1, cur, e1, _, hh, _⟩
  · cases e0
  · rcases h'.2 with ⟨e0, _⟩ | ⟨g2, c2, cur', e2, _, hh', _⟩
    · cases e0
    · cases e1
      cases e2
      rintro rfl
      rw [hh] at hh'
      simp only [Option.some.injEq, Obj.cells.injEq] at hh'
      exact hne hh'.2.1
theorem own_down {w : World} {base base' e size n : Nat} {v : Value} {xs : List Value} (h : w.ownsRow base e size v n xs) (hb : base' ≤ base) : w.ownsRow base' e size v n xs := by
  refine ⟨h.1, ?_⟩
  rcases h.2 with h0 | ⟨g, cap, cur, rfl, hg, h2⟩
  · exact .inl h0
  · exact .inr ⟨g, cap, cur, rfl, by omega, h2⟩
theorem zs_len {T S : Nat} (hS0 : 0 < S) (hS : S ≤ 9223372036854775807) (ws : List Int) (d : Array Cut) (g i : Nat) : blen (zsF T S ws d g i).natAbs ≤ 4000 := by
  have h1 : -1 ≤ zsF T S ws d g i ∧ zsF T S ws d g i ≤ 9223372036854775807 := by
    unfold zsF
    have : rW T S ws i < S := Nat.mod_lt _ hS0
    split <;> omega
  have := len_int (a := zsF T S ws d g i) (by omega) h1.2
  omega
theorem row_cells {w : World} {base e size n g cap : Nat} {xs : List Value} (h : w.ownsRow base e size (.slice (some ⟨g, 0, none⟩) n cap) n xs) {i : Nat} {u : Value} (hu : xs[i]? = some u) : w.cell? ⟨g, i, none⟩ = some u ∧ w.frozen? ⟨g, i, none⟩ = false := by
  have hl := h.1
  have hi := (List.getElem?_eq_some_iff.1 hu).1
  have h0 : 0 < n := by
    rcases Nat.eq_zero_or_pos n with e | e
    · rw [e] at hl; omega
    · exact e
  obtain ⟨g', c', e, _, _, _, _, hc⟩ := row_open h h0
  cases e
  exact hc i u hu
set_option maxHeartbeats 16000000 in
set_option maxRecDepth 100000 in
theorem refsplit_ok (T S n : Nat) (a : Option Addr) (cap : Nat) (ws : List Int) (hn : ws.length = n) (hT : T ≤ 9223372036854775807) (hp : ∀ w ∈ ws, 0 ≤ w) (hr : ∀ x ∈ ws, -9223372036854775808 ≤ x ∧ x ≤ 9223372036854775807) (hS0 : 0 < S) (hS : S ≤ 9223372036854775807) (hsum : ws.sum = (S : Int)) (hn64 : n ≤ 64) (d : Array Cut) (hd : SortedOf (cutsL T S ws n).toArray d) (w : World) (hx : RowAt w a n (numV ws)) :
    Calls Try.prog 18 #[.int .i64 T, .slice a n cap] w fun e w' => ∃ v, e = .returned v ∧ Below w.heap.size w w' ∧ w'.ownsRow w.heap.size 3 1 v n ((outG T S ws d (min (T - sumQ T S ws n) n) n).map (Value.int .i64)) := by
  obtain ⟨i0, hi, hi0, hi1, hi2⟩ := info_parts infoInt
  obtain ⟨j0, hj, hj0, hj1, hj2⟩ := info_parts infoBig
  have hsw : sumW ws n = S := by have := sumW_all hp; rw [hn] at this; omega
  have hn0 : 0 < n := by
    rcases Nat.eq_zero_or_pos n with h | h
    · subst h
      have : sumW ws 0 = 0 := rfl
      omega
    · exact h
  obtain ⟨l1, l2, l3⟩ := left_few (T := T) hS0 hsw
  obtain ⟨G, hG⟩ : ∃ G, T - sumQ T S ws n = G := ⟨_, rfl⟩
  rw [hG] at l1 l2 ⊢
  have hmin : min G n = G := Nat.min_eq_left l2
  rw [hmin]
  have HX := Lib.hid hx
  have HSum := Lib.hid (by have := sum_big a cap ws w (by rw [hn]; exact hx) hr (by omega); rwa [hn, hsum] at this : Calls Try.prog 17 #[.slice a n cap] w (BigEnd (S : Int) w))
  have HF := Lib.hid (And.intro hsw (And.intro hS0 (And.intro hS (And.intro hT (And.intro l3 hG)))))
  have HQ := Lib.hid (fun k (hk : k ≤ n) => sumQ_T (T := T) hS0 hsw hk)
  have HQ1 := Lib.hid (fun k (hk : k < n) => qW_le (T := T) hS0 hsw hk)
  have HW : Hid (∀ k, k < n → 0 ≤ ws.getD k 0 ∧ ws.getD k 0 ≤ 9223372036854775807) := fun k hk => by
    have : ws.getD k 0 ∈ ws := by simp [List.getD_eq_getElem?_getD, show k < ws.length by omega]
    exact ⟨hp _ this, (hr _ this).2⟩
  have HD := Lib.hid hd
  have HN0 := Lib.hid (And.intro hn0 hn64)
  clear hx hp hr hS0 hS hsum hn hd hsw l1 l3 hmin hG hT
  go_enter Try.func18, Try.ntmps18
  go_wp2_with fail
  with_reducible refine HSum.out.mono ?_
  rintro e w1 ⟨s5, a5, l5, c5, rfl, hB5, hb1, _⟩
  obtain ⟨wb, hwb⟩ : ∃ wb, w1.alloc (.cells #[.bool s5, .slice a5 l5 c5] 29) = wb := ⟨_, rfl⟩
  have hbb : Below w1.heap.size w1 wb := by rw [← hwb]; exact (Below.refl _ _).alloc (Nat.le_refl _) _
  have KS : Hid (Blk wb w1.heap.size #[.bool s5, .slice a5 l5 c5] 29) := by rw [← hwb]; exact Blk.new _ _ _
  have HS5 := Lib.hid (hB5.after hbb)
  have HBE := Lib.hid (hb1.trans (hbb.mono hb1.size))
  have HXb := Lib.hid ((HX.out.after hb1).after hbb)
  have HI0 : Hid (SpI wb wb (.slice none 0 0) (.slice none 0 0) [] [] []) := SpI.start
  have hb0 := Below.refl wb.heap.size wb
  clear HSum hB5 hb1 hbb HX
  go_wp2_with fail
  try rw [hwb]
  clear hwb
  go_loopw [6, 7, 8, 9, 10, 11, 12, 13] (fun v6 v7 v8 v9 _ _ _ _ wr => ∃ (k : Nat) (rs : List Rst), v8 = .int .i64 ((T - sumQ T S ws k : Nat) : Int) ∧ v9 = .int .i64 (k : Int) ∧ k ≤ n ∧ Hid (SpI wb wr v6 v7 (baseL T S ws k) rs rs) ∧ Hid (ZsAt rs k fun i => (rW T S ws i : Int))) (fun _ _ _ v9 _ _ _ _ _ => n - (intOf v9).toNat)
  case atStart => exact ⟨0, [], by simp [sumQ], rfl, by omega, HI0, ⟨rfl, fun i hi => by omega⟩⟩
  case round =>
    clear HI0 hb0
    obtain ⟨k, rs, rfl, rfl, hkn, HI, HZ⟩ := hrel
    by_cases hlt : k < n
    · have hlt' : (k : Int) < (n : Int) := by omega
      have hbr := HI.out.be
      obtain ⟨b, o, rfl, hc⟩ := (HXb.out.after hbr) (by omega)
      have c0 : wr.cell? ⟨b, o + k, none⟩ = some (.int .i64 (ws.getD k 0)) := hc k hlt
      have KS1 := Lib.hid (KS.out.after hbr)
      have HS1 := Lib.hid (HS5.out.after hbr)
      obtain ⟨hw0, hw1⟩ := HW.out k hlt
      have hq1 := HQ1.out k hlt
      have hk3 := sumQ_succ T S ws k
      have hqe : T * (ws.getD k 0).toNat / S = qW T S ws k := rfl
      have hre : T * (ws.getD k 0).toNat % S = rW T S ws k := rfl
      have HBs := Lib.hid (baseL_succ T S ws k)
      have hsk := HQ.out k (by omega)
      have hsk1 := HQ.out (k + 1) (by omega)
      obtain ⟨wk, hwk⟩ : ∃ x, ws.getD k 0 = x := ⟨_, rfl⟩
      rw [hwk] at c0 hw0 hw1 hqe hre
      obtain ⟨Q, hQ⟩ : ∃ Q, qW T S ws k = Q := ⟨_, rfl⟩
      obtain ⟨R, hR⟩ : ∃ R, rW T S ws k = R := ⟨_, rfl⟩
      rw [hQ] at hqe hq1 hk3 HBs
      rw [hR] at hre
      obtain ⟨q0, hq0⟩ : ∃ x, sumQ T S ws k = x := ⟨_, rfl⟩
      rw [hq0] at hq1 hk3 hsk ⊢
      obtain ⟨L, hL⟩ : ∃ x, T - q0 = x := ⟨_, rfl⟩
      rw [hL]
      have hsub : IntKind.i64.wrap ((L : Int) - (Q : Int)) = ((L - Q : Nat) : Int) := by
        rw [IntKind.wrap_i64]
        have := HF.out
        omega
      obtain ⟨L1, hL1⟩ : ∃ x, L - Q = x := ⟨_, rfl⟩
      rw [hL1] at hsub
      have HL := Lib.hid (And.intro hL hL1)
      clear hL hL1
      have HQR := Lib.hid (And.intro hqe hre)
      have HRk := Lib.hid hR
      have HK3 := Lib.hid (And.intro hk3 (And.intro hsk (And.intro hsk1 hq1)))
      clear hc hwk hqe hre hQ hR hq0 hk3 hsk hsk1 hq1
      go_upto_region 8 with fail
      go_cut [10, 11] from 19 to 53 (fun v10 v11 wx => PartR wr Q R v10 v11 wx)
      case first =>
        have h0 := (Below.refl wr.heap.size wr).drew
        have h0a := ((Below.refl wr.heap.size wr).alloc (Nat.le_refl _) (.cells #[.bool false, .slice none 0 0] 29)).drew
        have h0b := (((Below.refl wr.heap.size wr).alloc (Nat.le_refl _) (.cells #[.bool false, .slice none 0 0] 29)).alloc (by simp) (.cells #[.bool false, .slice none 0 0] 29)).drew
        have HS8 : Hid (∀ W, Below wr.heap.size wr W → W.cell? ⟨b, o + k, none⟩ = some (.int .i64 wk) ∧ W.cell? ⟨w1.heap.size, 0, none⟩ = some (.bool s5) ∧ W.cell? ⟨w1.heap.size, 1, none⟩ = some (.slice a5 l5 c5)) := fun W hW => ⟨below_cell hW c0, (KS1.out.after hW).cell 0 rfl, (KS1.out.after hW).cell 1 rfl⟩
        have HT := Lib.hid (of_at (T : Int) (by omega) (by have := HF.out; omega) wr)
        have HU := Lib.hid (of_at wk (by omega) (by omega) wr)
        have HM8 := Lib.hid (mul_at (T : Int) wk (len_int (by omega) (by have := HF.out; omega)) (len_int (by omega) (by omega)) wr)
        have HP8 := Lib.hid (parts_at (T : Int) wk (S : Int) Q R (len_int (by omega) (by have := HF.out; omega)) (len_int (by omega) (by omega)) (len_int (by omega) (by have := HF.out; omega)) (by have := HF.out; omega) (by rw [natAbs_mul2 _ _ hw0]; exact HQR.out.1) (by rw [natAbs_mul2 _ _ hw0]; exact HQR.out.2) wr s5 a5 l5 c5 HS1.out)
        clear hbr KS1 HS1 c0 hw0 hw1 hsub HQR HI HZ HBs HRk HK3 HL HW HQ HQ1 HXb KS HS5 HBE HF HD HN0 hi hi0 hi1 hi2 hj hj0 hj1 hj2
        go_region_held3 (fun W => W.cell? ⟨b, o + k, none⟩ = some (.int .i64 wk) ∧ W.cell? ⟨w1.heap.size, 0, none⟩ = some (.bool s5) ∧ W.cell? ⟨w1.heap.size, 1, none⟩ = some (.slice a5 l5 c5))
          (first | with_reducible exact HS8.out _ h8 | with_reducible exact HS8.out _ h8a | with_reducible exact HS8.out _ h8b | with_reducible exact HS8.out _ h7 | with_reducible exact HS8.out _ h7a | with_reducible exact HS8.out _ h7b | with_reducible exact HS8.out _ h6 | with_reducible exact HS8.out _ h6a | with_reducible exact HS8.out _ h6b | with_reducible exact HS8.out _ h5 | with_reducible exact HS8.out _ h5a | with_reducible exact HS8.out _ h5b | with_reducible exact HS8.out _ h0a | with_reducible exact HS8.out _ h0b | (with_reducible refine HS8.out _ ?_; (repeat (first | with_reducible exact h8 | with_reducible exact h8a | with_reducible exact h8b | with_reducible refine bel_set ?_ ?_ _ _ | with_reducible refine bel_alloc ?_ _ | with_reducible exact le0 | with_reducible exact le1 | with_reducible exact le2 | with_reducible exact le3 | with_reducible exact le4 | with_reducible exact le5 | with_reducible exact le6 | with_reducible exact le7)); done) | with_reducible exact HS8.out _ h0)
          (first
            | (go_at_call 14; (first | with_reducible refine (HT.out _ h0).mono ?_ | with_reducible refine (HT.out _ h0a).mono ?_ | with_reducible refine (HT.out _ h0b).mono ?_); rintro e w5 ⟨sT, aT, lT, cT, rfl, gT5, h5, d5⟩; have h5a := bel_alloc h5 (.cells #[.bool false, .slice none 0 0] 29); have h5b := bel_alloc h5a (.cells #[.bool false, .slice none 0 0] 29); have z5 := d5.size; (try simp at z5))
            | (go_at_call 14; (first | with_reducible refine (HU.out _ h0).mono ?_ | with_reducible refine (HU.out _ h0a).mono ?_ | with_reducible refine (HU.out _ h0b).mono ?_); rintro e w5 ⟨sU, aU, lU, cU, rfl, gU5, h5, d5⟩; have h5a := bel_alloc h5 (.cells #[.bool false, .slice none 0 0] 29); have h5b := bel_alloc h5a (.cells #[.bool false, .slice none 0 0] 29); have z5 := d5.size; (try simp at z5))
            | (go_at_call 14; (have gU5' := gU5); (first | with_reducible refine (HT.out _ h5).mono ?_ | with_reducible refine (HT.out _ h5a).mono ?_ | with_reducible refine (HT.out _ h5b).mono ?_); rintro e w6 ⟨sT, aT, lT, cT, rfl, gT6, h6, d6⟩; have gU6 := (by first | exact gU5.after d6 | exact (big_alloc gU5 _).after d6 | exact (big_alloc (big_alloc gU5 _) _).after d6 : BigAt _ _ _ _ _ _); have h6a := bel_alloc h6 (.cells #[.bool false, .slice none 0 0] 29); have h6b := bel_alloc h6a (.cells #[.bool false, .slice none 0 0] 29); have z6 := d6.size; (try simp at z6))
            | (go_at_call 14; (have gT5' := gT5); (first | with_reducible refine (HU.out _ h5).mono ?_ | with_reducible refine (HU.out _ h5a).mono ?_ | with_reducible refine (HU.out _ h5b).mono ?_); rintro e w6 ⟨sU, aU, lU, cU, rfl, gU6, h6, d6⟩; have gT6 := (by first | exact gT5.after d6 | exact (big_alloc gT5 _).after d6 | exact (big_alloc (big_alloc gT5 _) _).after d6 : BigAt _ _ _ _ _ _); have h6a := bel_alloc h6 (.cells #[.bool false, .slice none 0 0] 29); have h6b := bel_alloc h6a (.cells #[.bool false, .slice none 0 0] 29); have z6 := d6.size; (try simp at z6))
            | (go_at_call 13; (first | with_reducible refine (HM8.out _ _ _ _ _ _ _ _ _ h6 gT6 gU6).mono ?_ | with_reducible refine (HM8.out _ _ _ _ _ _ _ _ _ h6a (big_alloc gT6 _) (big_alloc gU6 _)).mono ?_ | with_reducible refine (HM8.out _ _ _ _ _ _ _ _ _ h6b (big_alloc (big_alloc gT6 _) _) (big_alloc (big_alloc gU6 _) _)).mono ?_); rintro e w7 ⟨sM, aM, lM, cM, rfl, gM7, h7, d7⟩; have h7a := bel_alloc h7 (.cells #[.bool false, .slice none 0 0] 29); have h7b := bel_alloc h7a (.cells #[.bool false, .slice none 0 0] 29); have z7 := d7.size; (try simp at z7))
            | (go_at_call 29; (first | with_reducible refine (HP8.out _ _ _ _ _ h7 gM7).mono ?_ | with_reducible refine (HP8.out _ _ _ _ _ h7a (big_alloc gM7 _)).mono ?_ | with_reducible refine (HP8.out _ _ _ _ _ h7b (big_alloc (big_alloc gM7 _) _)).mono ?_); rintro e w8 ⟨qa, ql, qc, ra, rl, rc, rfl, gQ8, gR8, h8, d8, fq, fr, ff⟩; (try simp at fq); (try simp at fr); have h8a := bel_alloc h8 (.cells #[.bool false, .slice none 0 0] 29); have h8b := bel_alloc h8a (.cells #[.bool false, .slice none 0 0] 29); have z8 := d8.size; (try simp at z8); (try (refine cut_of (P := Blk w8 (wr.heap.size) #[.bool false, .slice none 0 0] 29) ?_ ?_; (focus ((repeat (first | with_reducible exact Blk.new _ _ _ | with_reducible exact blk_new2 _ _ _ _ | with_reducible refine Blk.after ?_ d8 | with_reducible refine Blk.after ?_ d7 | with_reducible refine Blk.after ?_ d6 | with_reducible refine Blk.after ?_ d5 | with_reducible refine Blk.drew ?_ | with_reducible refine Blk.alloc ?_ _)); done)); intro k0; refine cut_of (P := wr.heap.size ≤ wr.heap.size) ?_ ?_; (focus (omega; done)); intro le0; refine cut_of (P := ∀ x, qa = some x → wr.heap.size < x.block) ?_ ?_; (focus ((intro x e; have := fq x e; omega); done)); intro fq0; refine cut_of (P := ∀ x, ra = some x → wr.heap.size < x.block) ?_ ?_; (focus ((intro x e; have := fr x e; omega); done)); intro fr0)); (try (refine cut_of (P := Blk w8 (wr.heap.size + 1) #[.bool false, .slice none 0 0] 29) ?_ ?_; (focus ((repeat (first | with_reducible exact Blk.new _ _ _ | with_reducible exact blk_new2 _ _ _ _ | with_reducible refine Blk.after ?_ d8 | with_reducible refine Blk.after ?_ d7 | with_reducible refine Blk.after ?_ d6 | with_reducible refine Blk.after ?_ d5 | with_reducible refine Blk.drew ?_ | with_reducible refine Blk.alloc ?_ _)); done)); intro k1; refine cut_of (P := wr.heap.size ≤ wr.heap.size + 1) ?_ ?_; (focus (omega; done)); intro le1; refine cut_of (P := ∀ x, qa = some x → wr.heap.size + 1 < x.block) ?_ ?_; (focus ((intro x e; have := fq x e; omega); done)); intro fq1; refine cut_of (P := ∀ x, ra = some x → wr.heap.size + 1 < x.block) ?_ ?_; (focus ((intro x e; have := fr x e; omega); done)); intro fr1)); (try (refine cut_of (P := Blk w8 (w5.heap.size) #[.bool false, .slice none 0 0] 29) ?_ ?_; (focus ((repeat (first | with_reducible exact Blk.new _ _ _ | with_reducible exact blk_new2 _ _ _ _ | with_reducible refine Blk.after ?_ d8 | with_reducible refine Blk.after ?_ d7 | with_reducible refine Blk.after ?_ d6 | with_reducible refine Blk.after ?_ d5 | with_reducible refine Blk.drew ?_ | with_reducible refine Blk.alloc ?_ _)); done)); intro k2; refine cut_of (P := wr.heap.size ≤ w5.heap.size) ?_ ?_; (focus (omega; done)); intro le2; refine cut_of (P := ∀ x, qa = some x → w5.heap.size < x.block) ?_ ?_; (focus ((intro x e; have := fq x e; omega); done)); intro fq2; refine cut_of (P := ∀ x, ra = some x → w5.heap.size < x.block) ?_ ?_; (focus ((intro x e; have := fr x e; omega); done)); intro fr2)); (try (refine cut_of (P := Blk w8 (w5.heap.size + 1) #[.bool false, .slice none 0 0] 29) ?_ ?_; (focus ((repeat (first | with_reducible exact Blk.new _ _ _ | with_reducible exact blk_new2 _ _ _ _ | with_reducible refine Blk.after ?_ d8 | with_reducible refine Blk.after ?_ d7 | with_reducible refine Blk.after ?_ d6 | with_reducible refine Blk.after ?_ d5 | with_reducible refine Blk.drew ?_ | with_reducible refine Blk.alloc ?_ _)); done)); intro k3; refine cut_of (P := wr.heap.size ≤ w5.heap.size + 1) ?_ ?_; (focus (omega; done)); intro le3; refine cut_of (P := ∀ x, qa = some x → w5.heap.size + 1 < x.block) ?_ ?_; (focus ((intro x e; have := fq x e; omega); done)); intro fq3; refine cut_of (P := ∀ x, ra = some x → w5.heap.size + 1 < x.block) ?_ ?_; (focus ((intro x e; have := fr x e; omega); done)); intro fr3)); (try (refine cut_of (P := Blk w8 (w6.heap.size) #[.bool false, .slice none 0 0] 29) ?_ ?_; (focus ((repeat (first | with_reducible exact Blk.new _ _ _ | with_reducible exact blk_new2 _ _ _ _ | with_reducible refine Blk.after ?_ d8 | with_reducible refine Blk.after ?_ d7 | with_reducible refine Blk.after ?_ d6 | with_reducible refine Blk.after ?_ d5 | with_reducible refine Blk.drew ?_ | with_reducible refine Blk.alloc ?_ _)); done)); intro k4; refine cut_of (P := wr.heap.size ≤ w6.heap.size) ?_ ?_; (focus (omega; done)); intro le4; refine cut_of (P := ∀ x, qa = some x → w6.heap.size < x.block) ?_ ?_; (focus ((intro x e; have := fq x e; omega); done)); intro fq4; refine cut_of (P := ∀ x, ra = some x → w6.heap.size < x.block) ?_ ?_; (focus ((intro x e; have := fr x e; omega); done)); intro fr4)); (try (refine cut_of (P := Blk w8 (w6.heap.size + 1) #[.bool false, .slice none 0 0] 29) ?_ ?_; (focus ((repeat (first | with_reducible exact Blk.new _ _ _ | with_reducible exact blk_new2 _ _ _ _ | with_reducible refine Blk.after ?_ d8 | with_reducible refine Blk.after ?_ d7 | with_reducible refine Blk.after ?_ d6 | with_reducible refine Blk.after ?_ d5 | with_reducible refine Blk.drew ?_ | with_reducible refine Blk.alloc ?_ _)); done)); intro k5; refine cut_of (P := wr.heap.size ≤ w6.heap.size + 1) ?_ ?_; (focus (omega; done)); intro le5; refine cut_of (P := ∀ x, qa = some x → w6.heap.size + 1 < x.block) ?_ ?_; (focus ((intro x e; have := fq x e; omega); done)); intro fq5; refine cut_of (P := ∀ x, ra = some x → w6.heap.size + 1 < x.block) ?_ ?_; (focus ((intro x e; have := fr x e; omega); done)); intro fr5)); (try (refine cut_of (P := Blk w8 (w7.heap.size) #[.bool false, .slice none 0 0] 29) ?_ ?_; (focus ((repeat (first | with_reducible exact Blk.new _ _ _ | with_reducible exact blk_new2 _ _ _ _ | with_reducible refine Blk.after ?_ d8 | with_reducible refine Blk.after ?_ d7 | with_reducible refine Blk.after ?_ d6 | with_reducible refine Blk.after ?_ d5 | with_reducible refine Blk.drew ?_ | with_reducible refine Blk.alloc ?_ _)); done)); intro k6; refine cut_of (P := wr.heap.size ≤ w7.heap.size) ?_ ?_; (focus (omega; done)); intro le6; refine cut_of (P := ∀ x, qa = some x → w7.heap.size < x.block) ?_ ?_; (focus ((intro x e; have := fq x e; omega); done)); intro fq6; refine cut_of (P := ∀ x, ra = some x → w7.heap.size < x.block) ?_ ?_; (focus ((intro x e; have := fr x e; omega); done)); intro fr6)); (try (refine cut_of (P := Blk w8 (w7.heap.size + 1) #[.bool false, .slice none 0 0] 29) ?_ ?_; (focus ((repeat (first | with_reducible exact Blk.new _ _ _ | with_reducible exact blk_new2 _ _ _ _ | with_reducible refine Blk.after ?_ d8 | with_reducible refine Blk.after ?_ d7 | with_reducible refine Blk.after ?_ d6 | with_reducible refine Blk.after ?_ d5 | with_reducible refine Blk.drew ?_ | with_reducible refine Blk.alloc ?_ _)); done)); intro k7; refine cut_of (P := wr.heap.size ≤ w7.heap.size + 1) ?_ ?_; (focus (omega; done)); intro le7; refine cut_of (P := ∀ x, qa = some x → w7.heap.size + 1 < x.block) ?_ ?_; (focus ((intro x e; have := fq x e; omega); done)); intro fq7; refine cut_of (P := ∀ x, ra = some x → w7.heap.size + 1 < x.block) ?_ ?_; (focus ((intro x e; have := fr x e; omega); done)); intro fr7)); (try (have q01 := k0; have q10 := k1; clear q01 q10; refine cut_of (P := wr.heap.size ≠ wr.heap.size + 1) ?_ ?_; (focus (omega; done)); intro e01; have e10 := fun e => e01 (Eq.symm e))); (try (have q02 := k0; have q20 := k2; clear q02 q20; refine cut_of (P := wr.heap.size ≠ w5.heap.size) ?_ ?_; (focus (omega; done)); intro e02; have e20 := fun e => e02 (Eq.symm e))); (try (have q03 := k0; have q30 := k3; clear q03 q30; refine cut_of (P := wr.heap.size ≠ w5.heap.size + 1) ?_ ?_; (focus (omega; done)); intro e03; have e30 := fun e => e03 (Eq.symm e))); (try (have q04 := k0; have q40 := k4; clear q04 q40; refine cut_of (P := wr.heap.size ≠ w6.heap.size) ?_ ?_; (focus (omega; done)); intro e04; have e40 := fun e => e04 (Eq.symm e))); (try (have q05 := k0; have q50 := k5; clear q05 q50; refine cut_of (P := wr.heap.size ≠ w6.heap.size + 1) ?_ ?_; (focus (omega; done)); intro e05; have e50 := fun e => e05 (Eq.symm e))); (try (have q06 := k0; have q60 := k6; clear q06 q60; refine cut_of (P := wr.heap.size ≠ w7.heap.size) ?_ ?_; (focus (omega; done)); intro e06; have e60 := fun e => e06 (Eq.symm e))); (try (have q07 := k0; have q70 := k7; clear q07 q70; refine cut_of (P := wr.heap.size ≠ w7.heap.size + 1) ?_ ?_; (focus (omega; done)); intro e07; have e70 := fun e => e07 (Eq.symm e))); (try (have q12 := k1; have q21 := k2; clear q12 q21; refine cut_of (P := wr.heap.size + 1 ≠ w5.heap.size) ?_ ?_; (focus (omega; done)); intro e12; have e21 := fun e => e12 (Eq.symm e))); (try (have q13 := k1; have q31 := k3; clear q13 q31; refine cut_of (P := wr.heap.size + 1 ≠ w5.heap.size + 1) ?_ ?_; (focus (omega; done)); intro e13; have e31 := fun e => e13 (Eq.symm e))); (try (have q14 := k1; have q41 := k4; clear q14 q41; refine cut_of (P := wr.heap.size + 1 ≠ w6.heap.size) ?_ ?_; (focus (omega; done)); intro e14; have e41 := fun e => e14 (Eq.symm e))); (try (have q15 := k1; have q51 := k5; clear q15 q51; refine cut_of (P := wr.heap.size + 1 ≠ w6.heap.size + 1) ?_ ?_; (focus (omega; done)); intro e15; have e51 := fun e => e15 (Eq.symm e))); (try (have q16 := k1; have q61 := k6; clear q16 q61; refine cut_of (P := wr.heap.size + 1 ≠ w7.heap.size) ?_ ?_; (focus (omega; done)); intro e16; have e61 := fun e => e16 (Eq.symm e))); (try (have q17 := k1; have q71 := k7; clear q17 q71; refine cut_of (P := wr.heap.size + 1 ≠ w7.heap.size + 1) ?_ ?_; (focus (omega; done)); intro e17; have e71 := fun e => e17 (Eq.symm e))); (try (have q23 := k2; have q32 := k3; clear q23 q32; refine cut_of (P := w5.heap.size ≠ w5.heap.size + 1) ?_ ?_; (focus (omega; done)); intro e23; have e32 := fun e => e23 (Eq.symm e))); (try (have q24 := k2; have q42 := k4; clear q24 q42; refine cut_of (P := w5.heap.size ≠ w6.heap.size) ?_ ?_; (focus (omega; done)); intro e24; have e42 := fun e => e24 (Eq.symm e))); (try (have q25 := k2; have q52 := k5; clear q25 q52; refine cut_of (P := w5.heap.size ≠ w6.heap.size + 1) ?_ ?_; (focus (omega; done)); intro e25; have e52 := fun e => e25 (Eq.symm e))); (try (have q26 := k2; have q62 := k6; clear q26 q62; refine cut_of (P := w5.heap.size ≠ w7.heap.size) ?_ ?_; (focus (omega; done)); intro e26; have e62 := fun e => e26 (Eq.symm e))); (try (have q27 := k2; have q72 := k7; clear q27 q72; refine cut_of (P := w5.heap.size ≠ w7.heap.size + 1) ?_ ?_; (focus (omega; done)); intro e27; have e72 := fun e => e27 (Eq.symm e))); (try (have q34 := k3; have q43 := k4; clear q34 q43; refine cut_of (P := w5.heap.size + 1 ≠ w6.heap.size) ?_ ?_; (focus (omega; done)); intro e34; have e43 := fun e => e34 (Eq.symm e))); (try (have q35 := k3; have q53 := k5; clear q35 q53; refine cut_of (P := w5.heap.size + 1 ≠ w6.heap.size + 1) ?_ ?_; (focus (omega; done)); intro e35; have e53 := fun e => e35 (Eq.symm e))); (try (have q36 := k3; have q63 := k6; clear q36 q63; refine cut_of (P := w5.heap.size + 1 ≠ w7.heap.size) ?_ ?_; (focus (omega; done)); intro e36; have e63 := fun e => e36 (Eq.symm e))); (try (have q37 := k3; have q73 := k7; clear q37 q73; refine cut_of (P := w5.heap.size + 1 ≠ w7.heap.size + 1) ?_ ?_; (focus (omega; done)); intro e37; have e73 := fun e => e37 (Eq.symm e))); (try (have q45 := k4; have q54 := k5; clear q45 q54; refine cut_of (P := w6.heap.size ≠ w6.heap.size + 1) ?_ ?_; (focus (omega; done)); intro e45; have e54 := fun e => e45 (Eq.symm e))); (try (have q46 := k4; have q64 := k6; clear q46 q64; refine cut_of (P := w6.heap.size ≠ w7.heap.size) ?_ ?_; (focus (omega; done)); intro e46; have e64 := fun e => e46 (Eq.symm e))); (try (have q47 := k4; have q74 := k7; clear q47 q74; refine cut_of (P := w6.heap.size ≠ w7.heap.size + 1) ?_ ?_; (focus (omega; done)); intro e47; have e74 := fun e => e47 (Eq.symm e))); (try (have q56 := k5; have q65 := k6; clear q56 q65; refine cut_of (P := w6.heap.size + 1 ≠ w7.heap.size) ?_ ?_; (focus (omega; done)); intro e56; have e65 := fun e => e56 (Eq.symm e))); (try (have q57 := k5; have q75 := k7; clear q57 q75; refine cut_of (P := w6.heap.size + 1 ≠ w7.heap.size + 1) ?_ ?_; (focus (omega; done)); intro e57; have e75 := fun e => e57 (Eq.symm e))); (try (have q67 := k6; have q76 := k7; clear q67 q76; refine cut_of (P := w7.heap.size ≠ w7.heap.size + 1) ?_ ?_; (focus (omega; done)); intro e67; have e76 := fun e => e67 (Eq.symm e))); (try (have ya0 := k0.cell 0 rfl; have yb0 := k0.cell 1 rfl; have yc0 := k0.free 0; have yd0 := k0.free 1; have lt0 := k0.lt; have ne0 := Nat.ne_of_lt lt0; have nf0 := fun e => ne0 (Eq.symm e))); (try (have ya1 := k1.cell 0 rfl; have yb1 := k1.cell 1 rfl; have yc1 := k1.free 0; have yd1 := k1.free 1; have lt1 := k1.lt; have ne1 := Nat.ne_of_lt lt1; have nf1 := fun e => ne1 (Eq.symm e))); (try (have ya2 := k2.cell 0 rfl; have yb2 := k2.cell 1 rfl; have yc2 := k2.free 0; have yd2 := k2.free 1; have lt2 := k2.lt; have ne2 := Nat.ne_of_lt lt2; have nf2 := fun e => ne2 (Eq.symm e))); (try (have ya3 := k3.cell 0 rfl; have yb3 := k3.cell 1 rfl; have yc3 := k3.free 0; have yd3 := k3.free 1; have lt3 := k3.lt; have ne3 := Nat.ne_of_lt lt3; have nf3 := fun e => ne3 (Eq.symm e))); (try (have ya4 := k4.cell 0 rfl; have yb4 := k4.cell 1 rfl; have yc4 := k4.free 0; have yd4 := k4.free 1; have lt4 := k4.lt; have ne4 := Nat.ne_of_lt lt4; have nf4 := fun e => ne4 (Eq.symm e))); (try (have ya5 := k5.cell 0 rfl; have yb5 := k5.cell 1 rfl; have yc5 := k5.free 0; have yd5 := k5.free 1; have lt5 := k5.lt; have ne5 := Nat.ne_of_lt lt5; have nf5 := fun e => ne5 (Eq.symm e))); (try (have ya6 := k6.cell 0 rfl; have yb6 := k6.cell 1 rfl; have yc6 := k6.free 0; have yd6 := k6.free 1; have lt6 := k6.lt; have ne6 := Nat.ne_of_lt lt6; have nf6 := fun e => ne6 (Eq.symm e))); (try (have ya7 := k7.cell 0 rfl; have yb7 := k7.cell 1 rfl; have yc7 := k7.free 0; have yd7 := k7.free 1; have lt7 := k7.lt; have ne7 := Nat.ne_of_lt lt7; have nf7 := fun e => ne7 (Eq.symm e)))))
        all_goals
          clear HS8 HT HU HM8 HP8 h0 h0a h0b
          go_step
          go_step
          go_meet
          case rel =>
            refine ⟨⟨_, _, qa, ql, qc, ra, rl, rc, rfl, rfl, ?_, ?_, ?_, ?_, ff⟩, ?_⟩
            · (repeat (first | with_reducible exact k0 | with_reducible exact k1 | with_reducible exact k2 | with_reducible exact k3 | with_reducible exact k4 | with_reducible exact k5 | with_reducible exact k6 | with_reducible exact k7 | with_reducible exact Blk.new _ _ _ | with_reducible exact blk_new2 _ _ _ _ | (with_reducible refine blk_newD ?_; simp [World.setCell]; done) | with_reducible refine blk_set2 ?_ _ _ | with_reducible refine Blk.far ?_ _ _ ?_ | with_reducible refine Blk.alloc ?_ _ | with_reducible assumption))
            · (repeat (first | with_reducible exact k0 | with_reducible exact k1 | with_reducible exact k2 | with_reducible exact k3 | with_reducible exact k4 | with_reducible exact k5 | with_reducible exact k6 | with_reducible exact k7 | with_reducible exact Blk.new _ _ _ | with_reducible exact blk_new2 _ _ _ _ | (with_reducible refine blk_newD ?_; simp [World.setCell]; done) | with_reducible refine blk_set2 ?_ _ _ | with_reducible refine Blk.far ?_ _ _ ?_ | with_reducible refine Blk.alloc ?_ _ | with_reducible assumption))
            · (repeat (first | with_reducible exact gQ8 | with_reducible exact gR8 | with_reducible refine big_alloc ?_ _ | with_reducible refine big_set ?_ ?_ | with_reducible exact fq0 | with_reducible exact fr0 | with_reducible exact fq1 | with_reducible exact fr1 | with_reducible exact fq2 | with_reducible exact fr2 | with_reducible exact fq3 | with_reducible exact fr3 | with_reducible exact fq4 | with_reducible exact fr4 | with_reducible exact fq5 | with_reducible exact fr5 | with_reducible exact fq6 | with_reducible exact fr6 | with_reducible exact fq7 | with_reducible exact fr7))
            · (repeat (first | with_reducible exact gQ8 | with_reducible exact gR8 | with_reducible refine big_alloc ?_ _ | with_reducible refine big_set ?_ ?_ | with_reducible exact fq0 | with_reducible exact fr0 | with_reducible exact fq1 | with_reducible exact fr1 | with_reducible exact fq2 | with_reducible exact fr2 | with_reducible exact fq3 | with_reducible exact fr3 | with_reducible exact fq4 | with_reducible exact fr4 | with_reducible exact fq5 | with_reducible exact fr5 | with_reducible exact fq6 | with_reducible exact fr6 | with_reducible exact fq7 | with_reducible exact fr7))
            · (repeat (first | with_reducible exact h8 | with_reducible exact h8a | with_reducible exact h8b | with_reducible refine bel_set ?_ ?_ _ _ | with_reducible refine bel_alloc ?_ _ | with_reducible exact le0 | with_reducible exact le1 | with_reducible exact le2 | with_reducible exact le3 | with_reducible exact le4 | with_reducible exact le5 | with_reducible exact le6 | with_reducible exact le7))
      case rest =>
        obtain ⟨Dq, Dr, qa, ql, qc, ra, rl, rc, rfl, rfl, kq, kr, hBQ, hBR, hfr⟩ := hcut.ex
        have hbx := hcut.be
        have hQT : (Q : Int) ≤ 9223372036854775807 := by have := HK3.out; have := HF.out; omega
        have HInt := Lib.hid (int_yes (Q : Int) false qa ql qc wc hBQ (fits_iff.2 ⟨by omega, hQT⟩))
        have HIx : Hid (SpI wb wc _ _ (baseL T S ws k) rs (rs ++ [⟨(R : Int), false, ra, rl, rc⟩])) := HI.out.track hbx ⟨(R : Int), false, ra, rl, rc⟩ hBR hfr
        have x0 := kq.cell 0 rfl
        have x1 := kq.cell 1 rfl
        have HKr := Lib.hid kr
        clear hcut kq kr hBQ hBR hfr hbx HI c0
        go_wp2_with fail
        with_reducible refine HInt.out.mono ?_
        rintro e w3 ⟨rfl, hb3⟩
        have HI3 := Lib.hid (HIx.out.after hb3)
        have HKr3 := Lib.hid (HKr.out.after hb3)
        clear HInt HIx HKr x0 x1 hb3
        have bt3 : Below w3.heap.size w3 (w3.alloc (.cells #[.int .i64 (Q : Int)] 3)) := (Below.refl _ _).alloc (Nat.le_refl _) _
        have HI3a := Lib.hid (HI3.out.after bt3)
        have HKr3a := Lib.hid (HKr3.out.after bt3)
        have hlen : (baseL T S ws k).length = k := baseL_len _ _ _ _
        have hrl : rs.length = k := HZ.out.1
        have hzb : wb.heap.size ≤ w3.heap.size := HI3.out.be.size
        have hk64 : k < 64 := by have := HN0.out; omega
        clear bt3
        go_wp2_with (first
          | (at_builtin; refine wpList_append_lies _ rfl (.tmp 43) (.tmp 45) 27 rfl wb.heap.size 3 i0 _ 1 8 Try.underlying27 hi hi0 hi1 hi2 rfl (by decide) _ k _ rfl (by have := HI3a.out.o; rw [hlen] at this; exact this) ⟨w3.heap.size, 0, none⟩ 1 1 [.int .i64 (Q : Int)] rfl rfl (World.news_of_block (cs := #[.int .i64 (Q : Int)]) (t := 3) (fr := (0, 0)) (heap_alloc_new w3 _)) (by simp [Value.oneCell']) (by omega) (by unfold maxLen; omega) (by omega) (by simp; omega) (w3.heap.size + 1) (by simp) ?_; intro g4 c4 w4 hown4 hgrow4 hat4 _; have HI4 : Hid (SpI wb w4 (.slice (some ⟨g4, 0, none⟩) (k + 1) c4) _ (baseL T S ws (k + 1)) rs (rs ++ [⟨(R : Int), false, ra, rl, rc⟩])) := (by have := HI3a.out.out (n := (Q : Int)) (g := g4) (cap := c4) (by rw [hlen]; exact hown4) hgrow4 (hat4.imp (fun h => h) (fun h => by rw [h]; simp)); rw [hlen, ← HBs.out] at this; exact this); have kr4 := HKr3a.out.grown hgrow4 (Blk.own_ne HKr3a.out HI3a.out.o (by decide)); have y0 := kr4.cell 0 rfl; have y1 := kr4.cell 1 rfl; have bt4 : Below w4.heap.size w4 (w4.alloc (.cells #[.bool false, .slice ra rl rc] 29)) := (Below.refl _ _).alloc (Nat.le_refl _) _; have HI4a := Lib.hid (HI4.out.after bt4); have hzb4 : wb.heap.size ≤ w4.heap.size := HI4.out.be.size; clear hown4 hgrow4 hat4 kr4 bt4)
          | (at_builtin; refine wpList_append_lies _ rfl (.tmp 47) (.tmp 49) 67 rfl wb.heap.size 29 j0 _ 2 32 Try.underlying67 hj hj0 hj1 hj2 rfl (by decide) _ k _ rfl (by have := HI4a.out.r; rw [hrl] at this; exact this) ⟨w4.heap.size, 0, none⟩ 1 1 [.bool false, .slice ra rl rc] rfl rfl (World.news_of_block (cs := #[.bool false, .slice ra rl rc]) (t := 29) (fr := (0, 0)) (heap_alloc_new w4 _)) (by simp [Value.oneCell']) (by omega) (by unfold maxLen; omega) (by omega) (by simp; omega) (w4.heap.size + 1) (by simp) ?_; intro g5 c5 w6 hown5 hgrow5 hat5 _; have HI6 : Hid (SpI wb w6 (.slice (some ⟨g4, 0, none⟩) (k + 1) c4) (.slice (some ⟨g5, 0, none⟩) (k + 1) c5) (baseL T S ws (k + 1)) (rs ++ [⟨(R : Int), false, ra, rl, rc⟩]) (rs ++ [⟨(R : Int), false, ra, rl, rc⟩])) := (by have := HI4a.out.rest (r := ⟨(R : Int), false, ra, rl, rc⟩) (g := g5) (cap := c5) (by rw [hrl]; exact hown5) hgrow5 (hat5.imp (fun h => h) (fun h => by rw [h]; simp)); rw [hrl] at this; exact this); clear hown5 hgrow5 hat5))
        have hv8 : (L1 : Int) = ((T - sumQ T S ws (k + 1) : Nat) : Int) := by
          have h1 := HL.out
          have h2 := HK3.out
          omega
        have HZ6 : Hid (ZsAt (rs ++ [⟨(R : Int), false, ra, rl, rc⟩]) (k + 1) fun i => (rW T S ws i : Int)) := HZ.out.snoc _ (by rw [HRk.out])
        go_roundw
        case rel => first | exact ⟨k + 1, _, by rw [hv8], by go_num, by omega, HI6, HZ6⟩ | ((repeat apply Exists.intro); exact ⟨⟨k + 1, _, by rw [hv8], by go_num, by omega, HI6, HZ6⟩, rfl⟩)
        case measure => simp [intOf]; omega
    · obtain rfl : n = k := by omega
      have hr6 := HI.out.o
      rw [baseL_len] at hr6
      obtain ⟨g6, c6, rfl, _⟩ := row_open hr6 HN0.out.1
      have hr7 := HI.out.r
      rw [HZ.out.1] at hr7
      obtain ⟨g7, c7, rfl, _⟩ := row_open hr7 HN0.out.1
      have HI2 : Hid (SpI wb wr (.slice (some ⟨g6, 0, none⟩) n c6) (.slice (some ⟨g7, 0, none⟩) n c7) (outG T S ws d 0 n) rs rs) := by rw [outG_zero]; exact HI.out
      have HZ2 : Hid (ZsAt rs n (zsF T S ws d 0)) := ⟨HZ.out.1, fun i hi => by rw [zsF_zero]; exact HZ.out.2 i hi⟩
      have hG : T - sumQ T S ws n = G := HF.out.2.2.2.2.2
      rw [hG]
      clear hr6 hr7 HI HZ hG
      go_wp2_with fail
      go_loopw [8, 14, 15] (fun v8 _ _ wr => ∃ (g : Nat) (rs : List Rst), v8 = .int .i64 ((G - g : Nat) : Int) ∧ g ≤ G ∧ Hid (SpI wb wr (.slice (some ⟨g6, 0, none⟩) n c6) (.slice (some ⟨g7, 0, none⟩) n c7) (outG T S ws d g n) rs rs) ∧ Hid (ZsAt rs n (zsF T S ws d g))) (fun v8 _ _ _ => (intOf v8).toNat)
      case atStart => exact ⟨0, rs, by simp, by omega, HI2, HZ2⟩
      case round =>
        clear HI2 HZ2
        obtain ⟨g, qs, rfl, hgG, HI, HZ⟩ := hrel
        obtain ⟨w4, hw4⟩ : ∃ w4, w4 = wr := ⟨_, rfl⟩
        subst hw4
        obtain ⟨M, hM⟩ : ∃ M, G - g = M := ⟨_, rfl⟩
        rw [hM]
        by_cases hM0 : 0 < M
        · have hM0' : (0 : Int) < (M : Int) := by omega
          have hgn : g < n := by omega
          have hms : IntKind.i64.wrap ((M : Int) - 1) = ((M - 1 : Nat) : Int) := by rw [IntKind.wrap_i64]; have := HF.out; omega
          have HM := Lib.hid hM
          have hl6 : (outG T S ws d g n).length = n := outG_len _ _ _ _ _ _
          have hb0 : Hid (Below w4.heap.size w4 w4) := Below.refl _ _
          have hBI0 : Hid (BestI (zsF T S ws d g) 1 0) := BestI.start _
          have hn1 : 1 ≤ n := HN0.out.1
          have HMp := Lib.hid hM0
          clear hM hM0
          go_wp2_with fail
          have hMd : decide (0 < M) = true := decide_eq_true HMp.out
          rw [hMd]
          go_loopw [14, 15] (fun v14 v15 wk => ∃ b i : Nat, v14 = .int .i64 (b : Int) ∧ v15 = .int .i64 (i : Int) ∧ i ≤ n ∧ Hid (BestI (zsF T S ws d g) i b) ∧ Hid (Below w4.heap.size w4 wk)) (fun _ v15 _ => n - (intOf v15).toNat)
          case atStart => exact ⟨0, 1, rfl, rfl, hn1, hBI0, hb0⟩
          case round =>
            clear hb0 hBI0 hM0'
            obtain ⟨b, i, rfl, rfl, hin, HBI, HBL⟩ := hrel
            have HIk := Lib.hid (HI.out.after HBL.out)
            have hbi := HBI.out.lt
            by_cases hlt : i < n
            · have hlt' : (i : Int) < (n : Int) := by omega
              have hbn : (b : Int) < (n : Int) := by omega
              have hbn' : b < n := by omega
              obtain ⟨ri, hri, zri⟩ := HZ.out.2 i hlt
              obtain ⟨rb, hrb, zrb⟩ := HZ.out.2 b hbn'
              obtain ⟨f0, f1⟩ := flatR_get qs i ri hri
              obtain ⟨f2, f3⟩ := flatR_get qs b rb hrb
              have hbi1 := (HIk.out.big ri (List.mem_of_getElem? hri)).1
              have hbi2 := (HIk.out.big rb (List.mem_of_getElem? hrb)).1
              obtain ⟨is, ia, il, ic, hri'⟩ : ∃ s a l c, ri = ⟨zsF T S ws d g i, s, a, l, c⟩ := ⟨ri.s, ri.a, ri.l, ri.c, by rw [← zri]⟩
              obtain ⟨bs, ba, bl, bc, hrb'⟩ : ∃ s a l c, rb = ⟨zsF T S ws d g b, s, a, l, c⟩ := ⟨rb.s, rb.a, rb.l, rb.c, by rw [← zrb]⟩
              rw [hri'] at f0 f1 hbi1
              rw [hrb'] at f2 f3 hbi2
              have hz1 := zs_len (T := T) HF.out.2.1 HF.out.2.2.1 ws d g i
              have hz2 := zs_len (T := T) HF.out.2.1 HF.out.2.2.1 ws d g b
              have hOrd : ∀ W, Below wr.heap.size wr W → Calls Try.prog 38 #[.agg #[.bool is, .slice ia il ic], .agg #[.bool bs, .slice ba bl bc]] W fun e w' => e = .returned (.int .i64 (ordV (zsF T S ws d g i) (zsF T S ws d g b))) ∧ Below wr.heap.size wr w' := fun W hW => by
                refine (order_big _ _ is bs ia ba il bl ic bc W (BigAt.after hbi1 hW) (BigAt.after hbi2 hW) hz1 hz2).mono ?_
                rintro e w' ⟨rfl, hb⟩
                exact ⟨rfl, hW.trans (hb.mono hW.size)⟩
              have hS : ∀ W, Below wr.heap.size wr W → W.cell? ⟨g7, i * 2, none⟩ = some (.bool is) ∧ W.cell? ⟨g7, i * 2 + 1, none⟩ = some (.slice ia il ic) ∧ W.cell? ⟨g7, b * 2, none⟩ = some (.bool bs) ∧ W.cell? ⟨g7, b * 2 + 1, none⟩ = some (.slice ba bl bc) := fun W hW => by
                have hr := own_after HIk.out.r hW
                rw [HZ.out.1] at hr
                exact ⟨(row_cells hr f0).1, (row_cells hr f1).1, (row_cells hr f2).1, (row_cells hr f3).1⟩
              have HOrd := Lib.hid hOrd
              have HS := Lib.hid hS
              have hbr0 := (Below.refl wr.heap.size wr).drew
              have hik : IntKind.i64.wrap ((i : Int) + 1) = (i : Int) + 1 := IntWalk.i64_in _ (by have := HN0.out; omega)
              have HLT := Lib.hid hlt
              have HUp : Hid (0 < ordV (zsF T S ws d g i) (zsF T S ws d g b) ↔ zsF T S ws d g b < zsF T S ws d g i) := by
                show _ ↔ _
                unfold ordV
                split
                · omega
                · split <;> omega
              obtain ⟨OV, hOV⟩ : ∃ v, ordV (zsF T S ws d g i) (zsF T S ws d g b) = v := ⟨_, rfl⟩
              rw [hOV] at HOrd HUp
              clear hOrd hS hri hrb zri zrb f0 f1 f2 f3 hbi1 hbi2 hri' hrb' hz1 hz2 hOV hlt hbn'
              by_cases hov : 0 < OV
              · have hov' : decide (0 < OV) = true := decide_eq_true hov
                have hup := Lib.hid (HBI.out.up (HUp.out.1 hov))
                clear hov
                go_wp2_with fail
                go_region_held3 (fun W => W.cell? ⟨g7, i * 2, none⟩ = some (.bool is) ∧ W.cell? ⟨g7, i * 2 + 1, none⟩ = some (.slice ia il ic) ∧ W.cell? ⟨g7, b * 2, none⟩ = some (.bool bs) ∧ W.cell? ⟨g7, b * 2 + 1, none⟩ = some (.slice ba bl bc))
                  (first | with_reducible exact HS.out _ hb6 | with_reducible exact HS.out _ hbr0)
                  (first
                    | (go_at_call 38; (with_reducible refine (HOrd.out _ hbr0).mono ?_); rintro e w6 ⟨rfl, hb6⟩))
                have HBN : Hid (Below w4.heap.size w4 w6) := HBL.out.trans (hb6.mono HBL.out.size)
                clear hb6 hbr0 HS HOrd HIk
                go_wp2_with fail
                go_roundw
                case rel => exact ⟨i, i + 1, rfl, by go_num, by have := HLT.out; omega, hup, HBN⟩
                case measure => have := HLT.out; simp [intOf]; omega
              · have hov' : decide (0 < OV) = false := decide_eq_false hov
                have hup := Lib.hid (HBI.out.stay (fun h => hov (HUp.out.2 h)))
                clear hov
                go_wp2_with fail
                go_region_held3 (fun W => W.cell? ⟨g7, i * 2, none⟩ = some (.bool is) ∧ W.cell? ⟨g7, i * 2 + 1, none⟩ = some (.slice ia il ic) ∧ W.cell? ⟨g7, b * 2, none⟩ = some (.bool bs) ∧ W.cell? ⟨g7, b * 2 + 1, none⟩ = some (.slice ba bl bc))
                  (first | with_reducible exact HS.out _ hb6 | with_reducible exact HS.out _ hbr0)
                  (first
                    | (go_at_call 38; (with_reducible refine (HOrd.out _ hbr0).mono ?_); rintro e w6 ⟨rfl, hb6⟩))
                have HBN : Hid (Below w4.heap.size w4 w6) := HBL.out.trans (hb6.mono HBL.out.size)
                clear hb6 hbr0 HS HOrd HIk
                go_wp2_with fail
                go_roundw
                case rel => exact ⟨b, i + 1, rfl, by go_num, by have := HLT.out; omega, hup, HBN⟩
                case measure => have := HLT.out; simp [intOf]; omega
            · obtain rfl : n = i := by omega
              have hbd := best_is HD.out hgn HBI.out
              obtain ⟨hs1, hm1⟩ := sorted_at HD.out
              obtain ⟨_, _, hgf⟩ := hm1 g hgn
              rw [← hbd] at hgf
              have hbn : b < n := hbi
              have hst := outG_step T S ws d g n (by omega) (by rw [← hbd]; exact hbn) (by rw [← hbd]; exact hgf)
              rw [← hbd] at hst
              obtain ⟨x, hx⟩ : ∃ x, (outG T S ws d g n).getD b 0 = x := ⟨_, rfl⟩
              have hxq : x = (qW T S ws b : Int) := by rw [← hx, outG_get _ _ _ _ _ _ _ hbn, hgf]; simp
              have hxl : 0 ≤ x ∧ x + 1 ≤ 9223372036854775807 := by
                have h1 := qW_one (T := T) (S := S) (ws := ws) (n := n) n (Nat.le_refl n) b hbn
                have h2 := HF.out.2.2.2
                have h3 := HM.out
                omega
              rw [hx] at hst
              have ho := HIk.out.o
              rw [hl6] at ho
              have hr := HIk.out.r
              rw [HZ.out.1] at hr
              have hne : g6 ≠ g7 := own_blocks ho hr (by decide)
              have hne' : g7 ≠ g6 := fun e => hne e.symm
              have hg7 : g7 < wr.heap.size := (hr.lt g7 rfl).2
              have hg7' : g7 ≠ wr.heap.size := by omega
              have hg7'' : wr.heap.size ≠ g7 := by omega
              have hu : ((outG T S ws d g n).map (Value.int .i64))[b]? = some (.int .i64 x) := by
                rw [List.getElem?_map, ← hx, List.getD_eq_getElem?_getD, List.getElem?_eq_getElem (by rw [hl6]; exact hbn)]
                rfl
              obtain ⟨p0, p1⟩ := row_cells ho hu
              obtain ⟨rb, hrb, _⟩ := HZ.out.2 b hbn
              obtain ⟨f2, f3⟩ := flatR_get qs b rb hrb
              obtain ⟨y0, y1⟩ := row_cells hr f2
              obtain ⟨y2, y3⟩ := row_cells hr f3
              have hxw : IntKind.i64.wrap (x + 1) = x + 1 := IntWalk.i64_in _ (by omega)
              have hbz : (b : Int) < (n : Int) := by omega
              have HIf : Hid (SpI wb ((((wr.setCell ⟨g6, b, none⟩ (.int .i64 (x + 1))).setCell ⟨g7, b * 2, none⟩ (.bool true)).setCell ⟨g7, b * 2 + 1, none⟩ (.slice (some ⟨wr.heap.size, 0, none⟩) 1 1)).alloc (.cells #[.int .i64 1] 3)) (.slice (some ⟨g6, 0, none⟩) n c6) (.slice (some ⟨g7, 0, none⟩) n c7) (outG T S ws d (g + 1) n) (qs.set b ⟨-1, true, some ⟨wr.heap.size, 0, none⟩, 1, 1⟩) (qs.set b ⟨-1, true, some ⟨wr.heap.size, 0, none⟩, 1, 1⟩)) := by
                have hA := HIk.out.setOut' hl6 b hbn (x + 1)
                rw [hst] at hA
                have hB := hA.setRest' HZ.out.1 b hbn ⟨-1, true, some ⟨wr.heap.size, 0, none⟩, 1, 1⟩
                have hz : (((wr.setCell ⟨g6, b, none⟩ (.int .i64 (x + 1))).setCell ⟨g7, b * 2, none⟩ (.bool true)).setCell ⟨g7, b * 2 + 1, none⟩ (.slice (some ⟨wr.heap.size, 0, none⟩) 1 1)).heap.size = wr.heap.size := by simp [World.setCell]
                have hmo := minus_one (((wr.setCell ⟨g6, b, none⟩ (.int .i64 (x + 1))).setCell ⟨g7, b * 2, none⟩ (.bool true)).setCell ⟨g7, b * 2 + 1, none⟩ (.slice (some ⟨wr.heap.size, 0, none⟩) 1 1))
                rw [hz] at hmo
                refine (hB.track ((Below.refl _ _).alloc (Nat.le_refl _) _) _ hmo (fun y e => by cases e; show _ ≤ wr.heap.size; rw [hz]; exact Nat.le_refl _)).less fun z hzm => ?_
                rcases List.mem_or_eq_of_mem_set hzm with h | h
                · exact List.mem_append.2 (.inl h)
                · exact List.mem_append.2 (.inr (by rw [h]; exact List.mem_singleton.2 rfl))
              have HZf : Hid (ZsAt (qs.set b ⟨-1, true, some ⟨wr.heap.size, 0, none⟩, 1, 1⟩) n (zsF T S ws d (g + 1))) := HZ.out.set HD.out hgn _ rfl hbd
              have HBN := Lib.hid (And.intro hbn hgn)
              clear hbd hs1 hm1 hgf hst hx hxq hxl ho hr hu hrb f2 f3 HIk hbi hgn hbn hl6
              go_wp2_with fail
              go_roundw
              case rel => exact ⟨g + 1, _, by have := HM.out; congr 1; omega, by have := HM.out; have := HMp.out; omega, HIf, HZf⟩
              case measure => have := HMp.out; simp [intOf]; omega
        · obtain rfl : M = 0 := by omega
          obtain rfl : g = G := by omega
          have hl6 : (outG T S ws d g n).length = n := outG_len _ _ _ _ _ _
          have ho := HI.out.o
          rw [hl6] at ho
          have HO := Lib.hid (own_down ho HBE.out.size)
          have HB9 := Lib.hid (HBE.out.trans (HI.out.be.mono HBE.out.size))
          clear ho hl6 HI HZ hM hM0
          go_wp2_with fail
          go_ret
          exact ⟨_, rfl, HB9.out, HO.out⟩

end Go.Proofs.Ytncodoaphfeefaa
