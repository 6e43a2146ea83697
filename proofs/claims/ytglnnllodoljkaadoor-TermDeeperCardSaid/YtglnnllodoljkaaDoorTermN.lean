/- Package term: Of. -/
import Derived.Test.YtglnnllodoljkaaDoorTermM
import Derived.Test.YtglnnllodoljkaaDoorHeldIn
import Derived.WalkMore
namespace Go.Proofs.YtglnnllodoljkaaDoor
open Go.RowKit Go.Shelf
set_option linter.unusedVariables false
set_option linter.unusedSimpArgs false
attribute [local go_sem] Oper.semAt_some

structure Seen (W : World) (t x n : Addr) (v u y : Value) : Prop where
  ht : W.cell? t = some v
  hx : W.cell? x = some u
  hn : W.cell? n = some y
  hS : ShapesAt W
theorem Seen.after {W W' : World} {t x n : Addr} {v u y : Value} (h : Seen W t x n v u y) (hb : Below W.heap.size W W') : Seen W' t x n v u y := ⟨below_cell hb h.ht, below_cell hb h.hx, below_cell hb h.hn, h.hS.after hb⟩

theorem leave_taken {P : Program} {f : Func} {a : Act} {R : Ending → World → Prop} {base : Nat} {w : World} (hT : Taken base a.defers w) (h : ∀ w', Below base w w' → ∃ v, (results f a.tmps).run P w' = .ok v w' ∧ R (.returned v) w') : bodyPostM Fence.wide 5 P f R .ret a w :=
  leaves_taken a.defers w hT h
theorem Taken.pushed {base X D : Nat} {t : TypeId} {v : Value} {ds : List Deferred} {w w' : World} (h : Taken base ds w) (hb : But w.heap.size X w w') (hX : Boxed w X t v) (hD : w.heap.size ≤ D) (hB : base ≤ D) (hw : w'.heap[D]? = some (.deferred (some []))) : Taken base ({ target := .collected D, args := #[] } :: ds) w' :=
  (h.kept fun r hr e => (hb.block r hr (fun e' => by subst e'; unfold Boxed at hX; rw [e] at hX; cases hX)).trans e).push hB hw fun d hd e => by
    have := h.lt d hd _ e
    omega

set_option maxHeartbeats 4000000 in
set_option maxRecDepth 100000 in
theorem of_term_ok (a : Option Addr) (cap : Nat) (ns : List Nd) (hl : ns.length ≤ 1000000) (hI : NdsIn ns) (w : World) (hS : ShapesAt w) (hN : NdsAt w a ns) :
    Calls Tryd.prog 16 #[.slice a ns.length cap] w fun e w' => e = .returned (.tuple #[.int .i64 (ofV ns).1, .int .i64 (ofV ns).2]) ∧ Below w.heap.size w w' := by
  have HN := Lib.hid hN
  have HS := Lib.hid hS
  have HI := Lib.hid hI
  have hs0 : 0 < w.heap.size := World.block_lt_of_cell? w _ (hS 0 (by omega) 0 (by omega))
  have hab : Hid (∀ x, a = some x → 0 < ns.length → x.block < w.heap.size) := fun x e h0 => by
    obtain ⟨b, o, e', hlt⟩ := RowsAt.lt hN h0 (by simp [Nd.row])
    rw [e] at e'
    cases e'
    exact hlt
  clear hN hS hI
  obtain ⟨wb, hwb⟩ : ∃ wb, w.alloc (.cells #[.slice a ns.length cap] 22) = wb := ⟨_, rfl⟩
  have zb : Hid (wb.heap.size = w.heap.size + 1) := by show _ = _; rw [← hwb]; simp
  have bb : Hid (Below w.heap.size w wb) := by rw [← hwb]; exact (Below.refl _ _).alloc (Nat.le_refl _) _
  have tb : Boxed wb w.heap.size 22 (.slice a ns.length cap) := by rw [← hwb]; exact Boxed.new _ _ _
  have ct0 := tb.cell
  refine (callsIn_wide (n := 5)).1 ?_
  refine callsIn_of_wp_marks Tryd.func16 rfl trivial ?_ rfl
  simp only [Tryd.ntmps16, List.size_toArray, List.length_cons, List.length_nil, Nat.reduceAdd, Nat.reduceSub, Array.replicate_succ, Array.replicate_zero, List.push_toArray, List.append_toArray, List.nil_append, List.cons_append]
  refine wpIn_wide.2 ?_
  go_wp2_with fail
  go_step3
  by_cases h64 : 64 < ns.length
  · have HV : Hid (ofV ns = (0, 15)) := if_pos h64
    have h64' : 64 < (ns.length : Int) := by omega
    clear h64
    go_wp2_with fail
    rw [Exit.noGoto_ret]
    refine leave_ret2 rfl ⟨_, results_tmp2 rfl _ _ _, ?_, bb.out⟩
    rw [HV.out]; rfl
  have h64' : (ns.length : Int) ≤ 64 := by omega
  by_cases h0 : ns.length = 0
  · have HV : Hid (ofV ns = (0, 13)) := by show _ = _; unfold ofV; rw [if_neg h64, if_pos (Or.inl h0)]
    have h0' : ((ns.length : Int) == 0) = true := by simp [h0]
    have h0'' : (ns.length : Int) = 0 := by omega
    clear h64
    go_wp2_with (go_quiet (fail))
    rw [Exit.noGoto_ret]
    refine leave_ret2 rfl ⟨_, results_tmp2 rfl _ _ _, ?_, below_drewN bb.out _⟩
    rw [HV.out]; rfl
  have h0' : ((ns.length : Int) == 0) = false := by simp only [beq_eq_false_iff_ne]; omega
  have HE := Lib.hid (end_ok a cap ns hl (ns.length - 0) 0 (Nat.le_refl _) (by omega) wb.drew (show ShapesAt wb from HS.out.after bb.out) (show NdsAt wb a ns from HN.out.after bb.out))
  have tbd : Boxed wb.drew w.heap.size 22 (.slice a ns.length cap) := tb
  rw [show ((0 : Nat) : Int) = 0 from rfl] at HE
  have H0 := Lib.hid h0
  have H64 := Lib.hid h64
  clear h0 h64
  go_wp2_with fail
  go_region_held3 (fun w' => w'.cell? ⟨w.heap.size, 0, none⟩ = some (.slice a ns.length cap)) (first | exact ct0 | exact hv3.cell) (first | (with_reducible refine HE.out.mono ?_; rintro e w3 ⟨rfl, hb3⟩; have hv3 := tbd.kept (below_grown hb3) (by simp)))
  have z3 := hb3.size
  have b3 : Hid (Below w.heap.size w w3) := (bb.out.trans (below_draws (B := w.heap.size) wb 1)).trans (hb3.mono (by have := zb.out; simp; omega))
  have ct3 := hv3.cell
  have HV3 := Lib.hid hv3
  have HC := Lib.hid (contains_ok a cap ns hl HI.out w3 (HN.out.after b3.out))
  have Hbad := Lib.hid (badV_spec ns ns.length 0)
  obtain ⟨E, hE⟩ : ∃ E, endV ns 0 = E := ⟨_, rfl⟩
  obtain ⟨Bd, hBd⟩ : ∃ Bd, badV ns ns.length 0 = Bd := ⟨_, rfl⟩
  rw [hE]
  rw [hBd] at HC Hbad
  have HEE := Lib.hid hE
  clear hE hBd HE hv3 hb3 hwb tbd tb ct0
  by_cases hEl : E = (ns.length : Int)
  · have hEb : (E != (ns.length : Int)) = false := by simp [hEl]
    have hq : Hid (skip 1 (opsOf ns) = some ns.length) := by
      show _ = _
      have := HEE.out
      rw [hEl] at this
      cases e : skip 1 ((opsOf ns).drop 0) with
      | none => rw [endV_none e] at this; omega
      | some q =>
        rw [endV_some e] at this
        rw [List.drop_zero] at e
        rw [e]
        congr 1
        omega
    clear HEE
    subst hEl
    by_cases hbd : 0 ≤ Bd
    · have hbdb : decide (0 ≤ Bd) = true := by simp [hbd]
      rw [hbdb] at HC
      have HV : Hid (ofV ns = (0, 10)) := by
        show _ = _
        unfold ofV
        rw [if_neg H64.out, if_neg (by rw [hq.out]; simp [H0.out]), if_pos ?_]
        intro h
        have := Hbad.out.2 fun j _ hj => h j (by omega)
        omega
      clear hbd hbdb
      go_wp2_with fail
      with_reducible refine HC.out.mono ?_
      rintro e w4 ⟨rfl, hb4⟩
      go_wp2_with fail
      rw [Exit.noGoto_ret]
      refine leave_ret2 rfl ⟨_, results_tmp2 rfl _ _ _, ?_, b3.out.trans (hb4.mono (by have := zb.out; simp at z3; omega))⟩
      rw [HV.out]; rfl
    · have hbdb : decide (0 ≤ Bd) = false := by simp [hbd]
      rw [hbdb] at HC
      have hF : Hid (∀ i, i < ns.length → fieldsV (Nd.at ns i) = true) := fun i hi => Hbad.out.1 (by omega) i (by omega) (by omega)
      clear hbd hbdb Hbad
      go_wp2_with fail
      with_reducible refine HC.out.mono ?_
      rintro e w4 ⟨rfl, hb4⟩
      have z4 := hb4.size
      have hv4 := HV3.out.kept (below_grown hb4) (by simp)
      have ct4 := hv4.cell
      have b4 : Hid (Below w.heap.size w w4) := b3.out.trans (hb4.mono (by have := zb.out; simp at z3; omega))
      have hz4 : Hid (w.heap.size < w4.heap.size) := by show _ < _; have := zb.out; simp at z3; omega
      obtain ⟨we, hwe⟩ : ∃ we, w4.alloc (.cells #[.int .i64 0] 24) = we := ⟨_, rfl⟩
      have be0 : Boxed we w4.heap.size 24 (.int .i64 0) := by rw [← hwe]; exact Boxed.new _ _ _
      have ve0 := hv4.alloc (.cells #[.int .i64 0] 24)
      rw [hwe] at ve0
      have ce0 := be0.cell
      have fe0 := be0.frozen
      have hne : w4.heap.size ≠ w.heap.size := by have := hz4.out; omega
      obtain ⟨wz, hwz⟩ : ∃ wz, we.setCell ⟨w4.heap.size, 0, none⟩ (.int .i64 0) = wz := ⟨_, rfl⟩
      have bz : Boxed wz w4.heap.size 24 (.int .i64 0) := by rw [← hwz]; exact be0.set _
      have tz : Boxed wz w.heap.size 22 (.slice a ns.length cap) := by rw [← hwz]; exact ve0.kept (grown_setCell we w4.heap.size 0 (.int .i64 0)) (by simp; omega)
      have zz : Hid (wz.heap.size = w4.heap.size + 1) := by show _ = _; rw [← hwz, ← hwe]; simp [World.setCell]
      have bbz : Hid (Below w.heap.size w wz) := by show Below _ _ _; rw [← hwz, ← hwe]; exact ((b4.out.alloc (Nat.le_of_lt hz4.out) _).setCell (p := ⟨w4.heap.size, 0, none⟩) (Nat.le_of_lt hz4.out) _)
      have ctz := tz.cell
      go_wp2_with fail
      go_step3
      go_wp2_with fail
      clear ctz hwz hwe ce0 fe0 be0 ve0 hne ct4 hv4 hb4 ct3 HC
      have HBZ := Lib.hid bz
      have HTZ := Lib.hid tz
      clear bz tz
      obtain ⟨I, hI⟩ : ∃ I : Act → World → Prop, I = fun act wr => ∃ u5 u6 u7 u8 u31 u32 u33 u34 u35 u36 u37 u38 u39 u40 u41 u42 u43 u44 u45 u46 u47 u48 u49 u50 u51 u52 u53 u30 : Value, ∃ ds : List Deferred, (∃ k : Nat, k ≤ ns.length ∧ u30 = .int .i64 (k : Int) ∧ Taken w.heap.size ds wr ∧ Boxed wr w4.heap.size 24 (.int .i64 0) ∧ Boxed wr w.heap.size 22 (.slice a ns.length cap) ∧ Hid (∀ j, j < k → sortsOk ns j) ∧ Below w.heap.size w wr ∧ w4.heap.size < wr.heap.size) ∧ act = ⟨#[.slice a ns.length cap, .pointer (some ⟨w.heap.size, 0, none⟩), .int .i64 0, .int .i64 0, .pointer (some ⟨w4.heap.size, 0, none⟩), u5, u6, u7, u8, .bool (decide (64 < (ns.length : Int))), .slice a ns.length cap, .int .i64 ns.length, .bool (decide (64 < (ns.length : Int))), .bool false, .slice a ns.length cap, .int .i64 ns.length, .bool false, .bool false, .slice a ns.length cap, .int .i64 ns.length, .slice a ns.length cap, .int .i64 ns.length, .bool false, .bool false, .bool true, .slice a ns.length cap, .bool false, .bool true, .slice a ns.length cap, .int .i64 ns.length, u30, u31, u32, u33, u34, u35, u36, u37, u38, u39, u40, u41, u42, u43, u44, u45, u46, u47, u48, u49, u50, u51, u52, u53, undef, undef, undef, undef, undef, undef, undef, undef, undef, undef, undef, undef, undef], ds⟩ := ⟨_, rfl⟩
      have HIV := Lib.hid hI
      clear hI
      refine wp_loop I
        (fun act _ => ns.length - (intOf (act.tmps.getD 30 undef)).toNat) ?start ?round
      case start =>
        rw [HIV.out]
        (repeat apply Exists.intro)
        refine ⟨⟨0, by omega, rfl, Taken.nil _ _, HBZ.out, HTZ.out, (fun j hj => by omega), bbz.out, by have := zz.out; omega⟩, rfl⟩
      case round =>
        intro _ wr hinv
        rw [HIV.out] at hinv
        obtain ⟨u5, u6, u7, u8, u31, u32, u33, u34, u35, u36, u37, u38, u39, u40, u41, u42, u43, u44, u45, u46, u47, u48, u49, u50, u51, u52, u53, u30, ds, ⟨k, hk, rfl, hT, hve, hvt, hso, hbl, hzl⟩, ha⟩ := hinv
        subst ha
        try dsimp only
        have hctt := hvt.cell
        by_cases hlt : k < ns.length
        · have hlt' : (k : Int) < (ns.length : Int) := by omega
          obtain ⟨b, o, rfl, hc⟩ := (HN.out.after hbl) (by omega)
          have c0 : wr.cell? ⟨b, o + k * 5, none⟩ = some (.int .i64 (Nd.at ns k).op) := hc k hlt 0 _ rfl
          have c1 : wr.cell? ⟨b, o + k * 5 + 1, none⟩ = some (.int .i64 (Nd.at ns k).a) := hc k hlt 1 _ rfl
          have c2 : wr.cell? ⟨b, o + k * 5 + 2, none⟩ = some (.int .i64 (Nd.at ns k).b) := hc k hlt 2 _ rfl
          have c3 : wr.cell? ⟨b, o + k * 5 + 3, none⟩ = some (.int .i64 (Nd.at ns k).num) := hc k hlt 3 _ rfl
          have c4 : wr.cell? ⟨b, o + k * 5 + 4, none⟩ = some (.int .i64 (Nd.at ns k).den) := hc k hlt 4 _ rfl
          clear hc
          obtain ⟨op, hop⟩ : ∃ op, (Nd.at ns k).op = op := ⟨_, rfl⟩
          rw [hop] at c0
          have HOP := Lib.hid hop
          clear hop
          obtain ⟨na, hna⟩ : ∃ op, (Nd.at ns k).a = op := ⟨_, rfl⟩
          rw [hna] at c1
          clear hna
          obtain ⟨nb, hna⟩ : ∃ op, (Nd.at ns k).b = op := ⟨_, rfl⟩
          rw [hna] at c2
          clear hna
          obtain ⟨nn, hna⟩ : ∃ op, (Nd.at ns k).num = op := ⟨_, rfl⟩
          rw [hna] at c3
          clear hna
          obtain ⟨nd, hna⟩ : ∃ op, (Nd.at ns k).den = op := ⟨_, rfl⟩
          rw [hna] at c4
          clear hna
          obtain ⟨wq, hwq⟩ : ∃ wq, wr.alloc (.cells #[.int .i64 0, .int .i64 0, .int .i64 0, .int .i64 0, .int .i64 0] 47) = wq := ⟨_, rfl⟩
          have kq : Blk wq wr.heap.size #[.int .i64 0, .int .i64 0, .int .i64 0, .int .i64 0, .int .i64 0] 47 := by rw [← hwq]; exact Blk.new _ _ _
          have bq : Hid (Below wr.heap.size wr wq) := by rw [← hwq]; exact (Below.refl _ _).alloc (Nat.le_refl _) _
          have zq : Hid (wq.heap.size = wr.heap.size + 1) := by show _ = _; rw [← hwq]; simp
          have f0 := kq.free 0
          have f1 := kq.free 1
          have f2 := kq.free 2
          have f3 := kq.free 3
          have f4 := kq.free 4
          have e0 : wq.cell? ⟨wr.heap.size, 0, none⟩ = some (.int .i64 0) := kq.cell 0 rfl
          have e1 : wq.cell? ⟨wr.heap.size, 1, none⟩ = some (.int .i64 0) := kq.cell 1 rfl
          have e2 : wq.cell? ⟨wr.heap.size, 2, none⟩ = some (.int .i64 0) := kq.cell 2 rfl
          have e3 : wq.cell? ⟨wr.heap.size, 3, none⟩ = some (.int .i64 0) := kq.cell 3 rfl
          have e4 : wq.cell? ⟨wr.heap.size, 4, none⟩ = some (.int .i64 0) := kq.cell 4 rfl
          obtain ⟨wx, hwx⟩ : ∃ wx, ((((wq.setCell ⟨wr.heap.size, 0, none⟩ (.int .i64 op)).setCell ⟨wr.heap.size, 1, none⟩ (.int .i64 na)).setCell ⟨wr.heap.size, 2, none⟩ (.int .i64 nb)).setCell ⟨wr.heap.size, 3, none⟩ (.int .i64 nn)).setCell ⟨wr.heap.size, 4, none⟩ (.int .i64 nd) = wx := ⟨_, rfl⟩
          have KX : Hid (Blk wx wr.heap.size #[.int .i64 op, .int .i64 na, .int .i64 nb, .int .i64 nn, .int .i64 nd] 47) := by
            rw [← hwx]
            exact ((((kq.set 0 _).set 1 _).set 2 _).set 3 _).set 4 _
          have bx : Hid (Below wr.heap.size wr wx) := by
            show Below _ _ _
            rw [← hwx]
            exact ((((bq.out.setCell (p := ⟨wr.heap.size, 0, none⟩) (Nat.le_refl _) _).setCell (p := ⟨wr.heap.size, 1, none⟩) (Nat.le_refl _) _).setCell (p := ⟨wr.heap.size, 2, none⟩) (Nat.le_refl _) _).setCell (p := ⟨wr.heap.size, 3, none⟩) (Nat.le_refl _) _).setCell (p := ⟨wr.heap.size, 4, none⟩) (Nat.le_refl _) _
          have zx : Hid (wx.heap.size = wr.heap.size + 1) := by show _ = _; rw [← hwx]; simpa [World.setCell] using zq.out
          have hvx : Boxed wx w.heap.size 22 (.slice (some ⟨b, o, none⟩) ns.length cap) := hvt.kept (below_grown bx.out) (by simp)
          have hcx := hvx.cell
          clear kq
          go_wp2_with fail
          with_reducible refine (kids_ok (some ⟨b, o, none⟩) ns.length cap k wx).mono ?_
          rintro e w5 ⟨rfl, hw5⟩
          have z5 : Hid (w5.heap.size = wx.heap.size + 2) := by show _ = _; rw [hw5]; simp
          have b5 : Hid (Below wx.heap.size wx w5) := by show Below _ _ _; rw [hw5]; exact ((Below.refl _ _).alloc (Nat.le_refl _) _).alloc (by simp) _
          have hvx5 : Boxed w5 w.heap.size 22 (.slice (some ⟨b, o, none⟩) ns.length cap) := by rw [hw5]; exact (hvx.alloc _).alloc _
          have ht5 : w5.cell? ⟨wx.heap.size, 0, none⟩ = some (.slice (some ⟨b, o, none⟩) ns.length cap) := by rw [hw5]; exact cell_alloc_l _ (cell_new_l _ _ _).1
          have hj5 : w5.cell? ⟨wx.heap.size + 1, 0, none⟩ = some (.int .i64 k) := by
            rw [hw5]
            have := (cell_new_l (wx.alloc (.cells #[.slice (some ⟨b, o, none⟩) ns.length cap] 22)) (.int .i64 k) 3).1
            rwa [World.size_alloc] at this
          have br5 : Hid (Below wr.heap.size wr w5) := bx.out.trans (b5.out.mono (by have := zx.out; omega))
          have HKA : Hid (KidsAt w5 w5.heap.size (wx.heap.size + 1) wx.heap.size k (some ⟨b, o, none⟩) cap ns) := ⟨(HS.out.after hbl).after br5.out, (HN.out.after hbl).after br5.out, hj5, ht5⟩
          have hve5 : Boxed w5 w4.heap.size 24 (.int .i64 0) := hve.kept (below_grown br5.out) (by simp)
          have KX5 : Hid (Blk w5 wr.heap.size #[.int .i64 op, .int .i64 na, .int .i64 nb, .int .i64 nn, .int .i64 nd] 47) := by show Blk _ _ _ _; rw [hw5]; exact (KX.out.alloc _).alloc _
          have HVE5 := Lib.hid hve5
          have HVX5 := Lib.hid hvx5
          have HT := Lib.hid hT
          obtain ⟨q, hqk, hql⟩ := skip_all hq.out hlt
          obtain ⟨M, hM⟩ : ∃ M, mny (Nd.at ns k).op = M := ⟨_, rfl⟩
          have hM4 : M ≤ 4 := by rw [← hM]; exact (mny_int _).2
          have HQK := Lib.hid hqk
          have HM := Lib.hid hM
          have HLT := Lib.hid hlt
          have hPl : Hid (∀ x : Fin M, place ns k x.val < ns.length) := fun x => by
            have hop0 : shp (Nd.at ns k).op 0 ≠ 0 := fun h => by have h5 := HQK.out; rw [skip_none HLT.out h] at h5; cases h5
            have h6 := HQK.out
            rw [skip_one HLT.out hop0] at h6
            cases e : skip (mny (Nd.at ns k).op) ((opsOf ns).drop (k + 1)) with
            | none => rw [e] at h6; cases h6
            | some r =>
              rw [HM.out] at e
              obtain ⟨q', hq', _⟩ := place_next e x.isLt
              rcases Nat.lt_or_ge (place ns k x.val) ns.length with h | h
              · exact h
              · rw [skip_over h] at hq'; cases hq'
          have hbw : Hid (b < w.heap.size) := hab.out _ rfl (by omega)
          have HZ5 : Hid (wx.heap.size + 2 = w5.heap.size ∧ wr.heap.size + 1 = wx.heap.size ∧ w4.heap.size < wr.heap.size ∧ w.heap.size < w4.heap.size) := by have := z5.out; have := zx.out; have := hz4.out; show _ ∧ _; omega
          have HBL := Lib.hid hbl
          clear hw5 hwx hwq ht5 hj5 hve5 hvx5 hve hvt hT hvx hcx hqk hql hM hlt f0 f1 f2 f3 f4 e0 e1 e2 e3 e4 c0 c1 c2 c3 c4 hctt z5 zx bq zq KX bx b5 hbl
          go_wp2_with fail
          refine wpIn_wide (n := 5) |>.1 ?_
          refine wpIn_rangeFunc_ownF rfl (by omega) (gf := 44) (lb := #[.pointer (some ⟨wx.heap.size + 1, 0, none⟩), .pointer (some ⟨wx.heap.size, 0, none⟩)]) rfl trivial (enters_of Tryd.func44 (by kernel_rfl) rfl)
            (kids_each _ (by omega) M w4.heap.size w5.heap.size _ _ k _ cap ns hl q HQK.out HM.out w5 HKA.out (by omega) (by have := HZ5.out; omega) (fun x e => by cases e; have := hbw.out; have := HZ5.out; simp; omega) (by have := HZ5.out; omega) (by have := HZ5.out; omega) (by have := HZ5.out; omega) (fun x e => by cases e; have := hbw.out; have := HZ5.out; simp; omega) (by have := HZ5.out; omega) (by have := HZ5.out; omega)) But.trans (But.putObj (by omega)) (Below.refl _ _) (fun _ => rfl)
            (fun (pre : List (Fin M)) W => Boxed W w4.heap.size 24 (.int .i64 0) ∧ But w5.heap.size w4.heap.size w5 W ∧ Below w.heap.size w5 W ∧ ∀ x ∈ pre, sortOk ns k x.val)
            (fun c pre W => (Boxed W w4.heap.size 24 (.int .i64 14) ∧ But w5.heap.size w4.heap.size w5 W ∧ Below w.heap.size w5 W) ∧ (c = .exit 1 ∧ ¬ sortsOk ns k))
            (OwnFrom.and (ownFrom_boxed (by have := HZ5.out; omega)) (OwnFrom.and (ownFrom_but (Nat.le_refl _) (Nat.le_refl _)) (OwnFrom.and (ownFrom_below (by have := HZ5.out; omega) (by have := HZ5.out; omega)) (ownFrom_pure _ _))))
            (fun c => OwnFrom.and (OwnFrom.and (ownFrom_boxed (by have := HZ5.out; omega)) (OwnFrom.and (ownFrom_but (Nat.le_refl _) (Nat.le_refl _)) (ownFrom_below (by have := HZ5.out; omega) (by have := HZ5.out; omega)))) (ownFrom_pure _ _))
            ⟨HVE5.out, But.refl _ _ _, Below.refl _ _, by simp⟩
            ?a1 ?assign ?body ?done ?stop
          case assign =>
            intro l x W K hK
            have hK' := Lib.hid hK
            clear hK
            gi_wp2
            exact hK'.out
          case body =>
            rintro l pre x W ⟨hv, hbut, hB, hpre⟩ hlt
            dsimp only [encF]
            have zB := hB.size
            have hKW := HKA.out.but hbut (by have := HZ5.out; omega) (fun x e => by cases e; have := hbw.out; have := HZ5.out; simp; omega) (by have := HZ5.out; omega) (by have := HZ5.out; omega) (by have := HZ5.out; omega) (fun x e => by cases e; have := hbw.out; have := HZ5.out; simp; omega) (by have := HZ5.out; omega) (by have := HZ5.out; omega)
            have hpl := hPl.out x
            obtain ⟨p, hp⟩ : ∃ p, place ns k x.val = p := ⟨_, rfl⟩
            rw [hp] at hpl ⊢
            obtain ⟨b', o', e', hcp⟩ := hKW.hN (by omega)
            cases e'
            have cp : W.cell? ⟨b, o + p * 5, none⟩ = some (.int .i64 (Nd.at ns p).op) := hcp p hpl 0 _ rfl
            clear hcp
            obtain ⟨op', hop'⟩ : ∃ op', (Nd.at ns p).op = op' := ⟨_, rfl⟩
            rw [hop'] at cp
            have hSO : Hid (sortOk ns k x.val ↔ shp op' 0 = shp op (x.val + 2)) := by
              show _ ↔ _
              unfold sortOk
              rw [hp, hop', HOP.out]
            have hx4 : x.val < 4 := by have := x.isLt; omega
            have ctW : W.cell? ⟨w.heap.size, 0, none⟩ = some (.slice (some ⟨b, o, none⟩) ns.length cap) := (World.cell?_of_block (a := ⟨w.heap.size, 0, none⟩) (hbut.block _ (by have := HZ5.out; simp; omega) (by have := HZ5.out; simp; omega))).trans HVX5.out.cell
            have cnW : W.cell? ⟨wr.heap.size, 0, none⟩ = some (.int .i64 op) := (World.cell?_of_block (a := ⟨wr.heap.size, 0, none⟩) (hbut.block _ (by have := HZ5.out; simp; omega) (by have := HZ5.out; simp; omega))).trans (KX5.out.cell 0 rfl)
            have hSn : Seen W.drew ⟨w.heap.size, 0, none⟩ ⟨b, o + p * 5, none⟩ ⟨wr.heap.size, 0, none⟩ (.slice (some ⟨b, o, none⟩) ns.length cap) (.int .i64 op') (.int .i64 op) := ⟨ctW, cp, cnW, hKW.hS⟩
            have HSn := Lib.hid hSn
            have HV := Lib.hid hv
            have HBU := Lib.hid hbut
            have HB := Lib.hid hB
            have HPRE := Lib.hid hpre
            have hpl1 : (p : Int) < (ns.length : Int) := by omega
            have hf2 := fun w => shape_field2 (.int .i64 (shp op 0)) (.int .i64 (shp op 1)) (.int .i64 (shp op 2)) (.int .i64 (shp op 3)) (.int .i64 (shp op 4)) (.int .i64 (shp op 5)) w
            obtain ⟨xv, hxv⟩ : ∃ xv, x.val = xv := ⟨_, rfl⟩
            rw [hxv] at hx4 hSO ⊢
            have hix : ∀ w, (Instr.index 60 (.agg #[.int .i64 (shp op 2), .int .i64 (shp op 3), .int .i64 (shp op 4), .int .i64 (shp op 5)]) (.int .i64 (xv : Int))).run Tryd.prog w = .ok (.int .i64 (shp op (xv + 2))) w := fun w => by
              rw [shape_index _ _ _ _ w xv hx4]
              congr 1
              have : xv = 0 ∨ xv = 1 ∨ xv = 2 ∨ xv = 3 := by omega
              rcases this with rfl | rfl | rfl | rfl <;> rfl
            have HSo := Lib.hid (fun w hS => sort_ok op' w hS)
            have HOf := Lib.hid (fun w hS => of_ok op w hS)
            unfold shapeV at HOf
            obtain ⟨y0, hy0⟩ : ∃ y0, shp op' 0 = y0 := ⟨_, rfl⟩
            obtain ⟨y1, hy1⟩ : ∃ y1, shp op (xv + 2) = y1 := ⟨_, rfl⟩
            rw [hy0] at HSo hSO
            rw [hy1] at hSO
            simp only [hy1] at hix
            have HXV := Lib.hid hxv
            have HL := Lib.hid hlt
            clear hv hbut hB hpre hKW hpl hp hop' hSn ctW cnW cp hy0 hy1 hxv hlt zB
            gi_wp2_with fail
            refine region_round (fun w' => Seen w' ⟨w.heap.size, 0, none⟩ ⟨b, o + p * 5, none⟩ ⟨wr.heap.size, 0, none⟩ (.slice (some ⟨b, o, none⟩) ns.length cap) (.int .i64 op') (.int .i64 op)) (by kernel_rfl) (fun ⟨_, _, h⟩ => h) (by rfl) ?_
            have hSn := HSn.out
            obtain ⟨wd, hwd⟩ : ∃ wd, W.drew = wd := ⟨_, rfl⟩
            have hbd : Hid (Below W.heap.size W wd) := by show Below _ _ _; rw [← hwd]; exact (Below.refl _ _).drew
            have kod : Hid (KeepsOthers W wd) := by show KeepsOthers _ _; rw [← hwd]; exact KeepsOthers.drew W
            rw [hwd] at hSn ⊢
            clear hwd HSn
            refine wpAnyH_takes (i := 0) (v := ?_) rfl (by kernel_rfl) (fun _ _ _ h => h) (by rfl) hSn ?_ ?_
            rotate_left 1
            · intro w hSw
              obtain ⟨s1, s2, s3, s4⟩ := hSw
              go_simp
              try with_reducible rfl
            try simp only [Act.put, List.setIfInBounds_toArray, List.set_cons_zero, List.set_cons_succ]
            refine wpAnyH_takes (i := 1) (v := ?_) rfl (by kernel_rfl) (fun _ _ _ h => h) (by rfl) hSn ?_ ?_
            rotate_left 1
            · intro w hSw
              obtain ⟨s1, s2, s3, s4⟩ := hSw
              go_simp
              try with_reducible rfl
            try simp only [Act.put, List.setIfInBounds_toArray, List.set_cons_zero, List.set_cons_succ]
            refine wpAnyH_takes (i := 2) (v := ?_) rfl (by kernel_rfl) (fun _ _ _ h => h) (by rfl) hSn ?_ ?_
            rotate_left 1
            · intro w hSw
              obtain ⟨s1, s2, s3, s4⟩ := hSw
              go_simp
              try with_reducible rfl
            try simp only [Act.put, List.setIfInBounds_toArray, List.set_cons_zero, List.set_cons_succ]
            refine wpAnyH_takes (i := 3) (v := ?_) rfl (by kernel_rfl) (fun _ _ _ h => h) (by rfl) hSn ?_ ?_
            rotate_left 1
            · intro w hSw
              obtain ⟨s1, s2, s3, s4⟩ := hSw
              go_simp
              try with_reducible rfl
            try simp only [Act.put, List.setIfInBounds_toArray, List.set_cons_zero, List.set_cons_succ]
            refine wpAnyH_takes (i := 4) (v := ?_) rfl (by kernel_rfl) (fun _ _ _ h => h) (by rfl) hSn ?_ ?_
            rotate_left 1
            · intro w hSw
              obtain ⟨s1, s2, s3, s4⟩ := hSw
              go_simp
              try with_reducible rfl
            try simp only [Act.put, List.setIfInBounds_toArray, List.set_cons_zero, List.set_cons_succ]
            refine wpAnyH_takes (i := 6) (v := ?_) rfl (by kernel_rfl) (fun _ _ _ h => h) (by rfl) hSn ?_ ?_
            rotate_left 1
            · intro w hSw
              obtain ⟨s1, s2, s3, s4⟩ := hSw
              go_simp
              try with_reducible rfl
            try simp only [Act.put, List.setIfInBounds_toArray, List.set_cons_zero, List.set_cons_succ]
            refine wpAnyH_takes (i := 7) (v := ?_) rfl (by kernel_rfl) (fun _ _ _ h => h) (by rfl) hSn ?_ ?_
            rotate_left 1
            · intro w hSw
              obtain ⟨s1, s2, s3, s4⟩ := hSw
              go_simp
              try with_reducible rfl
            try simp only [Act.put, List.setIfInBounds_toArray, List.set_cons_zero, List.set_cons_succ]
            refine wpAnyH_takes (i := 10) (v := ?_) rfl (by kernel_rfl) (fun _ _ _ h => h) (by rfl) hSn ?_ ?_
            rotate_left 1
            · intro w hSw
              obtain ⟨s1, s2, s3, s4⟩ := hSw
              go_simp
              try with_reducible rfl
            try simp only [Act.put, List.setIfInBounds_toArray, List.set_cons_zero, List.set_cons_succ]
            refine wpAnyH_nexts (i := 5) rfl (by kernel_rfl) ?_
            intro K hK
            go_simp
            with_reducible refine (HSo.out _ hSn.hS).mono ?_
            rintro e w6 ⟨rfl, hb6⟩
            have hS6 := hSn.after hb6
            refine hK.out _ _ hS6 ?_
            clear hK K
            try simp only [Act.put, List.setIfInBounds_toArray, List.set_cons_zero, List.set_cons_succ]
            refine wpAnyH_nexts (i := 8) rfl (by kernel_rfl) ?_
            intro K hK
            go_simp
            with_reducible refine (HOf.out _ hS6.hS).mono ?_
            rintro e w7 ⟨rfl, hb7⟩
            have hS7 := hS6.after hb7
            refine hK.out _ _ hS7 ?_
            clear hK K
            try simp only [Act.put, List.setIfInBounds_toArray, List.set_cons_zero, List.set_cons_succ]
            refine wpAnyH_takes (i := 9) (v := ?_) rfl (by kernel_rfl) (fun _ _ _ h => h) (by rfl) hS7 ?_ ?_
            rotate_left 1
            · intro w hSw
              obtain ⟨s1, s2, s3, s4⟩ := hSw
              go_simp
              try with_reducible rfl
            try simp only [Act.put, List.setIfInBounds_toArray, List.set_cons_zero, List.set_cons_succ]
            refine wpAnyH_takes (i := 11) (v := ?_) rfl (by kernel_rfl) (fun _ _ _ h => h) (by rfl) hS7 ?_ ?_
            rotate_left 1
            · intro w hSw
              obtain ⟨s1, s2, s3, s4⟩ := hSw
              go_simp
              try with_reducible rfl
            try simp only [Act.put, List.setIfInBounds_toArray, List.set_cons_zero, List.set_cons_succ]
            refine wpAnyH_takes (i := 12) (v := ?_) rfl (by kernel_rfl) (fun _ _ _ h => h) (by rfl) hS7 ?_ ?_
            rotate_left 1
            · intro w hSw
              obtain ⟨s1, s2, s3, s4⟩ := hSw
              go_simp
              try with_reducible rfl
            try simp only [Act.put, List.setIfInBounds_toArray, List.set_cons_zero, List.set_cons_succ]
            refine wpAnyH_done (by kernel_rfl) ?_ _
            have z6 := hb6.size
            have hbw7 := Lib.hid ((hbd.out.trans (hb6.mono hbd.out.size)).trans (hb7.mono (Nat.le_trans hbd.out.size z6)))
            have kow7 := Lib.hid (kod.out.trans ((keepsOthers_of_below hb6).trans (keepsOthers_of_below hb7)))
            have zW := HB.out.size
            have hv7 := HV.out.kept (below_grown hbw7.out) (by simp)
            have hbut7 := Lib.hid (But.below (N := W.heap.size) (But.refl w5.heap.size w4.heap.size W) hbw7.out zW)
            have f7 := hv7.frozen
            have c7 := hv7.cell
            have HV7 := Lib.hid hv7
            have z7 := hbw7.out.size
            clear hv7 hS6 hS7 hb6 hb7 hSn hf2 hix z6
            by_cases hyy : y0 = y1
            · have hyb : (y0 != y1) = false := by simp [hyy]
              gi_wp2_with fail
              refine ⟨kow7.out, hbut7.out, HV7.out, HBU.out.trans hbut7.out, HB.out.trans (hbw7.out.mono (by have := HZ5.out; omega)), ?_⟩
              intro z hz
              rcases List.mem_append.1 hz with h | h
              · exact HPRE.out z h
              · rw [List.mem_singleton] at h
                subst h
                rw [HXV.out]
                exact hSO.out.2 hyy
            · have hyb : (y0 != y1) = true := by simp [hyy]
              gi_wp2_with fail
              refine ⟨kow7.out.trans (KeepsOthers.setCell _ _ _), ⟨HV7.out.set _, (HBU.out.trans hbut7.out).set (by omega) _, Below.setCell (HB.out.trans (hbw7.out.mono (by have := HZ5.out; omega))) (p := ⟨w4.heap.size, 0, none⟩) (by have := HZ5.out; simp; omega) _⟩, rfl, fun h => hyy (hSO.out.1 ?_)⟩
              have := h x.val (by rw [HM.out]; exact x.isLt)
              rwa [HXV.out] at this
          case done =>
            rintro D ys W hD rfl ⟨hv, hbut, hB, hpre⟩ hK
            dsimp only
            have HTW := Lib.hid ((HT.out.after br5.out).pushed hbut HVE5.out hD (by have := HZ5.out; omega) hK)
            have HV := Lib.hid hv
            have HVX := Lib.hid (show Boxed W w.heap.size 22 (.slice (some ⟨b, o, none⟩) ns.length cap) from (hbut.block _ (by have := HZ5.out; omega) (by have := HZ5.out; omega)).trans HVX5.out)
            have HBW := Lib.hid ((HBL.out.trans (br5.out.mono (by have := HZ5.out; omega))).trans hB)
            have hso' : Hid (∀ j, j < k + 1 → sortsOk ns j) := fun j hj => by
              rcases Nat.lt_or_ge j k with h | h
              · exact hso.out j h
              · obtain rfl : j = k := by omega
                intro x hx
                rw [HM.out] at hx
                exact hpre ⟨x, hx⟩ (by simp)
            have zB := hB.size
            have hwk : IntKind.i64.wrap ((k : Int) + 1) = (k : Int) + 1 := IntWalk.i64_in _ (by omega)
            clear hv hbut hB hpre hK
            go_wp2_with fail
            refine ⟨?_, ?_⟩
            · rw [HIV.out]
              (repeat apply Exists.intro)
              refine ⟨⟨k + 1, by have := HLT.out; omega, by go_num, HTW.out, HV.out, HVX.out, hso', HBW.out, by have := HZ5.out; omega⟩, rfl⟩
            · have := HLT.out
              simp [intOf]
              omega
          case stop =>
            rintro D c pre W hD _ ⟨⟨hv, hbut, hB⟩, rfl, hbad⟩ hK
            dsimp only
            have HTW := Lib.hid ((HT.out.after br5.out).pushed hbut HVE5.out hD (by have := HZ5.out; omega) hK)
            have HBW := Lib.hid ((HBL.out.trans (br5.out.mono (by have := HZ5.out; omega))).trans hB)
            have HV : Hid (ofV ns = (0, 14)) := by
              show _ = _
              unfold ofV
              rw [if_neg H64.out, if_neg (by rw [hq.out]; simp [H0.out]), if_neg (by simpa using hF.out), if_pos (fun h => hbad (h k HLT.out))]
            have hce := hv.cell
            clear hv hbut hB hK hbad
            refine wpIn_wide.2 ?_
            go_wp2_with (go_quiet (fail))
            rw [Exit.noGoto_ret]
            refine leave_taken (base := w.heap.size) (HTW.out.after (below_draws _ _)) fun w' hw' => ⟨_, results_tmp2 rfl _ _ _, ?_, (HBW.out.trans (below_draws _ _)).trans hw'⟩
            rw [HV.out]; rfl
        · obtain rfl : k = ns.length := by omega
          have hce := hve.cell
          have HT := Lib.hid hT
          have HVT := Lib.hid hvt
          have HBL := Lib.hid hbl
          have hs1 : Hid (ShapesAt wr) := HS.out.after hbl
          have hn1 : Hid (NdsAt wr a ns) := HN.out.after hbl
          have HD := Lib.hid (deep_ok a cap ns hl ns.length 0 ns.length (by omega) (by rw [List.drop_zero]; exact hq.out) wr hs1.out hn1.out)
          rw [show ((0 : Nat) : Int) = 0 from rfl] at HD
          have hdle : Hid (deepF ns ns.length 0 ≤ 1000001) := by
            show _ ≤ _
            have := (deepF_le ns ns.length 0).2
            omega
          have hV : Hid (ofV ns = if 12 < deepF ns ns.length 0 then (0, 15) else (shp (Nd.at ns 0).op 0, 0)) := by
            show _ = _
            conv => lhs; unfold ofV
            rw [if_neg H64.out, if_neg (by rw [hq.out]; simp [H0.out]), if_neg (by simpa using hF.out), if_neg (by simpa using hso.out)]
          obtain ⟨dp, hdp⟩ : ∃ dp, deepF ns ns.length 0 = dp := ⟨_, rfl⟩
          rw [hdp] at HD hdle hV
          clear hve hvt hT hbl hso hdp
          go_wp2_with fail
          with_reducible refine HD.out.mono ?_
          rintro e w6 ⟨rfl, hb6⟩
          have hvt6 := HVT.out.kept (below_grown hb6) (by simp)
          have hct6 := hvt6.cell
          have HT6 := Lib.hid (HT.out.after hb6)
          have hbw6 := Lib.hid (HBL.out.trans (hb6.mono HBL.out.size))
          by_cases h12 : 12 < dp
          · rw [if_pos h12] at hV
            have h12' : 12 < (dp : Int) := by omega
            go_wp2_with fail
            rw [Exit.noGoto_ret]
            refine leave_taken (base := w.heap.size) HT6.out fun w' hw' => ⟨_, results_tmp2 rfl _ _ _, ?_, hbw6.out.trans hw'⟩
            rw [hV.out]; rfl
          · rw [if_neg h12] at hV
            have h12' : (dp : Int) ≤ 12 := by omega
            obtain ⟨b, o, rfl, hc⟩ := (hn1.out.after hb6) (by have := H0.out; omega)
            have c0 : w6.cell? ⟨b, o, none⟩ = some (.int .i64 (Nd.at ns 0).op) := by
              have := hc 0 (by have := H0.out; omega) 0 (.int .i64 (Nd.at ns 0).op) rfl
              rwa [Nat.zero_mul, Nat.add_zero] at this
            obtain ⟨op, hop⟩ : ∃ op, (Nd.at ns 0).op = op := ⟨_, rfl⟩
            rw [hop] at c0 hV
            have HSo := Lib.hid (sort_ok op w6 (hs1.out.after hb6))
            have hl0 : (0 : Int) < (ns.length : Int) := by have := H0.out; omega
            clear hc hop
            go_wp2_with fail
            with_reducible refine HSo.out.mono ?_
            rintro e w7 ⟨rfl, hb7⟩
            go_wp2_with fail
            rw [Exit.noGoto_ret]
            refine leave_taken (base := w.heap.size) (HT6.out.after hb7) fun w' hw' => ⟨_, results_tmp2 rfl _ _ _, ?_, (hbw6.out.trans (hb7.mono hbw6.out.size)).trans hw'⟩
            rw [hV.out]; rfl
  · have hEb : (E != (ns.length : Int)) = true := by simp [hEl]
    have HV : Hid (ofV ns = (0, 13)) := by
      show _ = _
      unfold ofV
      rw [if_neg H64.out, if_pos (Or.inr ?_)]
      intro h
      have := HEE.out
      rw [endV_some (n := ns.length) (by rw [List.drop_zero]; exact h)] at this
      omega
    clear hEl
    go_wp2_with fail
    rw [Exit.noGoto_ret]
    refine leave_ret2 rfl ⟨_, results_tmp2 rfl _ _ _, ?_, b3.out⟩
    rw [HV.out]; rfl

end Go.Proofs.YtglnnllodoljkaaDoor
