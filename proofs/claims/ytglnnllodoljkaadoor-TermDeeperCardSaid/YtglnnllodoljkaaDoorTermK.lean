/- Package term: deep. -/
import Derived.Test.YtglnnllodoljkaaDoorTermJ
namespace Go.Proofs.YtglnnllodoljkaaDoor
open Go.RowKit Go.Shelf
set_option linter.unusedVariables false
set_option linter.unusedSimpArgs false
attribute [local go_sem] Oper.semAt_some

theorem ownFrom_but {β : Type} {n₀ X B : Nat} {w₀ : World} (hn : n₀ ≤ w₀.heap.size) (hB : n₀ ≤ B) : OwnFrom B (fun (_ : β) W => But n₀ X w₀ W) :=
  fun _ _ _ row hs hg hr => ⟨Nat.le_trans hs.size hg.size, fun j hj hx => (hg.block j (Nat.lt_of_lt_of_le hj (Nat.le_trans hn hs.size)) (fun e => by have := (hr j e.symm).1; omega)).trans (hs.block j hj hx)⟩
theorem ownFrom_boxed {β : Type} {X B : Nat} {t : TypeId} {v : β → Value} (hX : X < B) : OwnFrom B (fun s W => Boxed W X t (v s)) :=
  fun _ _ _ row hs hg hr => hs.kept hg (fun e => by have := (hr X e.symm).1; omega)
theorem But.refl (n₀ X : Nat) (W : World) : But n₀ X W W := ⟨Nat.le_refl _, fun _ _ _ => rfl⟩
theorem But.below {n₀ X N : Nat} {A B C : World} (h : But n₀ X A B) (hb : Below N B C) (hn : n₀ ≤ N) : But n₀ X A C := ⟨Nat.le_trans h.size hb.size, fun j hj hx => (hb.block j (by omega)).trans (h.block j hj hx)⟩
theorem But.set {n₀ X : Nat} {A B : World} (hn : n₀ ≤ B.heap.size) (h : But n₀ X A B) (v : Value) : But n₀ X A (B.setCell ⟨X, 0, none⟩ v) :=
  ⟨by simpa [World.setCell] using h.size, fun j hj hx => ((grown_setCell B X 0 v).block j (by omega) (by simpa using hx)).trans (h.block j hj hx)⟩
theorem keepsOthers_of_below {W W' : World} (h : Below W.heap.size W W') : KeepsOthers W W' := KeepsOthers.of_grownBy (below_grown h) (fun _ _ e => by cases e)

/-- The depth of the term at a place. -/
def deepF (ns : List Nd) : Nat → Nat → Nat
  | 0, _ => 1
  | m + 1, i => ((List.range (mny (Nd.at ns i).op)).foldl (fun n k => max n (deepF ns m (place ns i k))) 0) + 1
theorem place_gt (ns : List Nd) (i k : Nat) : i < place ns i k := by unfold place; omega
theorem nd_over {ns : List Nd} {i : Nat} (h : ns.length ≤ i) : mny (Nd.at ns i).op = 0 := by
  unfold Nd.at
  rw [List.getD_eq_getElem?_getD, List.getElem?_eq_none h]
  decide
theorem deepF_enough (ns : List Nd) : ∀ (m m' i : Nat), ns.length - i ≤ m → ns.length - i ≤ m' → deepF ns m i = deepF ns m' i
  | 0, 0, _, _, _ => rfl
  | 0, m' + 1, i, h, _ => by rw [deepF, deepF, nd_over (by omega)]; rfl
  | m + 1, 0, i, _, h => by rw [deepF, deepF, nd_over (by omega)]; rfl
  | m + 1, m' + 1, i, h, h' => by
    rw [deepF, deepF]
    congr 2
    funext n k
    rw [deepF_enough ns m m' _ (by have := place_gt ns i k; omega) (by have := place_gt ns i k; omega)]
def mxF (ns : List Nd) (m i M : Nat) (xs : List (Fin M)) : Nat := xs.foldl (fun n k => max n (deepF ns m (place ns i k.val))) 0
theorem fin_range (M : Nat) : (List.finRange M).map (fun k => k.val) = List.range M := by
  refine List.ext_getElem (by simp) fun i h1 h2 => ?_
  simp
theorem mxF_all (ns : List Nd) (m i M : Nat) : mxF ns m i M (List.finRange M) = (List.range M).foldl (fun n k => max n (deepF ns m (place ns i k))) 0 := by
  unfold mxF
  rw [← fin_range, List.foldl_map]
theorem mxF_snoc (ns : List Nd) (m i M : Nat) (xs : List (Fin M)) (x : Fin M) : mxF ns m i M (xs ++ [x]) = max (mxF ns m i M xs) (deepF ns m (place ns i x.val)) := by
  unfold mxF
  rw [List.foldl_append]
  rfl
theorem deepF_le (ns : List Nd) : ∀ (m i : Nat), 1 ≤ deepF ns m i ∧ deepF ns m i ≤ m + 1
  | 0, _ => ⟨Nat.le_refl _, Nat.le_refl _⟩
  | m + 1, i => by
    rw [deepF]
    refine ⟨by omega, ?_⟩
    have : ∀ (l : List Nat) (n : Nat), n ≤ m + 1 → l.foldl (fun n k => max n (deepF ns m (place ns i k))) n ≤ m + 1 := by
      intro l
      induction l with
      | nil => exact fun n h => h
      | cons x l ih => exact fun n h => ih _ (by have := (deepF_le ns m (place ns i x)).2; dsimp only; omega)
    have := this (List.range (mny (Nd.at ns i).op)) 0 (by omega)
    omega

set_option maxHeartbeats 4000000 in
set_option maxRecDepth 100000 in
theorem deep_ok (a : Option Addr) (cap : Nat) (ns : List Nd) (hl : ns.length ≤ 1000000) : ∀ (m i q : Nat), ns.length - i ≤ m → skip 1 ((opsOf ns).drop i) = some q → ∀ w : World, ShapesAt w → NdsAt w a ns →
    Calls Tryd.prog 39 #[.slice a ns.length cap, .int .i64 i] w fun e w' => e = .returned (.int .i64 (deepF ns m i : Int)) ∧ Below w.heap.size w w'
  | 0, i, q, hm, hq, _, _, _ => by
    rw [skip_over (by omega)] at hq
    cases hq
  | m + 1, i, q, hm, hq, w, hS, hN => by
    have hi : i < ns.length := by
      rcases Nat.lt_or_ge i ns.length with h | h
      · exact h
      · rw [skip_over h] at hq; cases hq
    have hop0 : shp (Nd.at ns i).op 0 ≠ 0 := fun h => by rw [skip_none hi h] at hq; cases hq
    obtain ⟨r, hr⟩ : ∃ r, skip (mny (Nd.at ns i).op) ((opsOf ns).drop (i + 1)) = some r := by
      rw [skip_one hi hop0] at hq
      cases e : skip (mny (Nd.at ns i).op) ((opsOf ns).drop (i + 1)) with
      | none => rw [e] at hq; cases hq
      | some r => exact ⟨r, rfl⟩
    obtain ⟨M, hM⟩ : ∃ M, mny (Nd.at ns i).op = M := ⟨_, rfl⟩
    have hM4 : M ≤ 4 := by rw [← hM]; exact (mny_int _).2
    rw [hM] at hr
    have hV : Hid (deepF ns (m + 1) i = mxF ns m i M (List.finRange M) + 1) := by
      rw [mxF_all, deepF, hM]
      exact rfl
    have hK : Hid (∀ k : Fin M, ∃ q, skip 1 ((opsOf ns).drop (place ns i k.val)) = some q) := fun k => by
      obtain ⟨q, h, _⟩ := place_next hr k.isLt
      exact ⟨q, h⟩
    have hPlt : Hid (∀ k : Fin M, i < place ns i k.val) := fun k => place_gt _ _ _
    obtain ⟨V, hVV⟩ : ∃ V, deepF ns (m + 1) i = V := ⟨_, rfl⟩
    rw [hVV] at hV ⊢
    have hVle : Hid (V ≤ 1000001) := by
      show V ≤ _
      rw [← hVV, deepF_enough ns (m + 1) (ns.length - i) i hm (Nat.le_refl _)]
      have := (deepF_le ns (ns.length - i) i).2
      omega
    clear hVV hop0 hr
    have IH := Lib.hid (deep_ok a cap ns hl m)
    have HN := Lib.hid hN
    have HS := Lib.hid hS
    have HQ := Lib.hid hq
    have HM := Lib.hid hM
    have Hm := Lib.hid hm
    have HI := Lib.hid hi
    have hs0 : 0 < w.heap.size := World.block_lt_of_cell? w _ (hS 0 (by omega) 0 (by omega))
    have hab : Hid (∀ x, a = some x → x.block < w.heap.size) := fun x e => by
      obtain ⟨b, o, e', hlt⟩ := RowsAt.lt hN (by omega) (by simp [Nd.row])
      rw [e] at e'
      cases e'
      exact hlt
    clear hN hS hq hM hm hi
    obtain ⟨wb, hwb⟩ : ∃ wb, w.alloc (.cells #[.slice a ns.length cap] 22) = wb := ⟨_, rfl⟩
    have zb : Hid (wb.heap.size = w.heap.size + 1) := by show _ = _; rw [← hwb]; simp
    have bb : Hid (Below w.heap.size w wb) := by rw [← hwb]; exact (Below.refl _ _).alloc (Nat.le_refl _) _
    have tb : Boxed wb w.heap.size 22 (.slice a ns.length cap) := by rw [← hwb]; exact Boxed.new _ _ _
    obtain ⟨wa, hwa⟩ : ∃ wa, wb.alloc (.cells #[.int .i64 0] 3) = wa := ⟨_, rfl⟩
    have za : Hid (wa.heap.size = wb.heap.size + 1) := by show _ = _; rw [← hwa]; simp
    have ba : Hid (Below wb.heap.size wb wa) := by rw [← hwa]; exact (Below.refl _ _).alloc (Nat.le_refl _) _
    have bO : Boxed wa wb.heap.size 3 (.int .i64 0) := by rw [← hwa]; exact Boxed.new _ _ _
    have ta : Boxed wa w.heap.size 22 (.slice a ns.length cap) := by rw [← hwa]; exact tb.alloc _
    have ca0 := bO.cell
    have fa0 := bO.frozen
    have hne : wb.heap.size ≠ w.heap.size := by have := zb.out; omega
    obtain ⟨wz, hwz⟩ : ∃ wz, wa.setCell ⟨wb.heap.size, 0, none⟩ (.int .i64 0) = wz := ⟨_, rfl⟩
    have bz : Boxed wz wb.heap.size 3 (.int .i64 0) := by rw [← hwz]; exact bO.set _
    have tz : Boxed wz w.heap.size 22 (.slice a ns.length cap) := by rw [← hwz]; exact ta.kept (grown_setCell wa wb.heap.size 0 (.int .i64 0)) (by simp; omega)
    have zz : Hid (wz.heap.size = wb.heap.size + 1) := by show _ = _; rw [← hwz, ← za.out]; simp [World.setCell]
    have bbz : Hid (Below w.heap.size w wz) := by show Below _ _ _; rw [← hwz]; exact ((bb.out.trans (ba.out.mono (by have := zb.out; omega))).setCell (p := ⟨wb.heap.size, 0, none⟩) (by have := zb.out; simp; omega) _)
    have ct0 := tz.cell
    have cz0 := bz.cell
    refine (callsIn_wide (n := 5)).1 ?_
    refine callsIn_of_wp_marks Tryd.func39 rfl trivial ?_ rfl
    simp only [Tryd.ntmps39, List.size_toArray, List.length_cons, List.length_nil, Nat.reduceAdd, Nat.reduceSub, Array.replicate_succ, Array.replicate_zero, List.push_toArray, List.append_toArray, List.nil_append, List.cons_append]
    refine wpIn_wide.2 ?_
    go_wp2_with fail
    with_reducible refine (kids_ok a ns.length cap i wz).mono ?_
    rintro e w2 ⟨rfl, hw2⟩
    have z2 : Hid (w2.heap.size = wz.heap.size + 2) := by show _ = _; rw [hw2]; simp
    have b2 : Hid (Below wz.heap.size wz w2) := by show Below _ _ _; rw [hw2]; exact ((Below.refl _ _).alloc (Nat.le_refl _) _).alloc (by simp) _
    have bO2 : Boxed w2 wb.heap.size 3 (.int .i64 0) := by rw [hw2]; exact (bz.alloc _).alloc _
    have tO2 : Boxed w2 w.heap.size 22 (.slice a ns.length cap) := by rw [hw2]; exact (tz.alloc _).alloc _
    have ht : w2.cell? ⟨wz.heap.size, 0, none⟩ = some (.slice a ns.length cap) := by rw [hw2]; exact cell_alloc_l _ (cell_new_l _ _ _).1
    have hj2 : w2.cell? ⟨wz.heap.size + 1, 0, none⟩ = some (.int .i64 i) := by
      rw [hw2]
      have := (cell_new_l (wz.alloc (.cells #[.slice a ns.length cap] 22)) (.int .i64 i) 3).1
      rwa [World.size_alloc] at this
    have bw : Hid (Below w.heap.size w w2) := bbz.out.trans (b2.out.mono (by have := zz.out; have := zb.out; omega))
    have HKA : Hid (KidsAt w2 w2.heap.size (wz.heap.size + 1) wz.heap.size i a cap ns) := ⟨HS.out.after bw.out, HN.out.after bw.out, hj2, ht⟩
    have HOO := Lib.hid bO2
    have HTO := Lib.hid tO2
    have HZ2 : Hid (wb.heap.size + 3 = w2.heap.size ∧ w.heap.size + 1 = wb.heap.size ∧ wz.heap.size = wb.heap.size + 1) := by have := zb.out; have := z2.out; have := zz.out; show _ ∧ _; omega
    clear ht hj2 hw2 bO bO2 tO2 bz tz ta tb hwz hwa hwb ca0 fa0 ct0 cz0 hne b2 bbz zz z2 za ba bb zb
    go_wp2_with fail
    refine wpIn_wide (n := 5) |>.1 ?_
    refine wpIn_rangeFunc_ownF rfl (by omega) (gf := 44) (lb := #[.pointer (some ⟨wz.heap.size + 1, 0, none⟩), .pointer (some ⟨wz.heap.size, 0, none⟩)]) rfl trivial (enters_of Tryd.func44 (by kernel_rfl) rfl)
      (kids_each _ (by omega) M wb.heap.size w2.heap.size _ _ i a cap ns hl q HQ.out HM.out w2 HKA.out (by omega) (by have := HZ2.out; omega) (fun x e => by have := hab.out x e; have := HZ2.out; omega) (by have := HZ2.out; omega) (by have := HZ2.out; omega) (by have := HZ2.out; omega) (fun x e => by have := hab.out x e; have := HZ2.out; omega) (by have := HZ2.out; omega) (by have := HZ2.out; omega)) But.trans (But.putObj (by omega)) (Below.refl _ _) (fun _ => rfl)
      (fun (pre : List (Fin M)) W => Boxed W wb.heap.size 3 (.int .i64 (mxF ns m i M pre : Int)) ∧ But w2.heap.size wb.heap.size w2 W ∧ Below w.heap.size w2 W)
      (fun _ _ _ => False)
      (OwnFrom.and (ownFrom_boxed (by have := HZ2.out; omega)) (OwnFrom.and (ownFrom_but (Nat.le_refl _) (Nat.le_refl _)) (ownFrom_below (by have := HZ2.out; omega) (by have := HZ2.out; omega))))
      (fun _ _ _ _ _ hs _ _ => hs)
      ⟨HOO.out, But.refl _ _ _, Below.refl _ _⟩
      ?a1 ?assign ?body ?done ?stop
    case assign =>
      intro l x W K hK
      have hK' := Lib.hid hK
      clear hK
      gi_wp2
      exact hK'.out
    case body =>
      rintro l pre x W ⟨hv, hbut, hB⟩ hlt
      have hc := hv.cell
      have hf := hv.frozen
      have htW : W.cell? ⟨w.heap.size, 0, none⟩ = some (.slice a ns.length cap) :=
        (World.cell?_of_block (a := ⟨w.heap.size, 0, none⟩) (hbut.block _ (by have := HZ2.out; simp; omega) (by have := HZ2.out; simp; omega))).trans HTO.out.cell
      obtain ⟨q', hq'⟩ := hK.out x
      have hgt := hPlt.out x
      have zB := hB.size
      have hKW := HKA.out.but hbut (by have := HZ2.out; omega) (fun x e => by have := hab.out x e; have := HZ2.out; omega) (by have := HZ2.out; omega) (by have := HZ2.out; omega) (by have := HZ2.out; omega) (fun x e => by have := hab.out x e; have := HZ2.out; omega) (by have := HZ2.out; omega) (by have := HZ2.out; omega)
      have HSn := Lib.hid (mxF_snoc ns m i M pre x)
      obtain ⟨p, hp⟩ : ∃ p, place ns i x.val = p := ⟨_, rfl⟩
      dsimp only [encF]
      rw [hp] at hq' hgt HSn ⊢
      have HC := Lib.hid (IH.out p q' (by have := Hm.out; omega) hq' W.drew hKW.hS hKW.hN)
      obtain ⟨dp, hdp⟩ : ∃ dp, deepF ns m p = dp := ⟨_, rfl⟩
      obtain ⟨mp, hmp⟩ : ∃ mp, mxF ns m i M pre = mp := ⟨_, rfl⟩
      rw [hdp] at HC HSn
      rw [hmp] at hc hv HSn
      have HV := Lib.hid hv
      have HB := Lib.hid hB
      have HBU := Lib.hid hbut
      have HL := Lib.hid hlt
      clear hq' hgt hKW hp hdp hmp hv hB hbut hlt
      gi_wp2_with fail
      gi_region_with (refine ⟨trivial, ?_⟩; refine (CallsIn.inRound l (callsIn_wide.2 HC.out)).mono ?_; rintro e w3 ⟨rfl, hb3⟩; have hv3 := HV.out.kept (W := W.drew) (below_grown hb3) (by simp); have hc3 := hv3.cell; have hf3 := hv3.frozen)
      all_goals gi_wp2_with fail
      all_goals
        have zB := HB.out.size
        have z3 := hb3.size
        have hbd : But w2.heap.size wb.heap.size W w3 := (But.below (N := W.heap.size) (But.refl _ _ W) (below_draws W 1) zB).below hb3 (by simpa using zB)
        refine ⟨(KeepsOthers.drew W).trans ((keepsOthers_of_below hb3).trans (KeepsOthers.setCell _ _ _)), hbd.set (by simp at z3; omega) _, ?_, (HBU.out.trans hbd).set (by simp at z3; omega) _, ?_⟩
        · rw [HSn.out]
          first
            | (rw [show ((max mp dp : Nat) : Int) = (dp : Int) from by omega]; exact hv3.set _)
            | (rw [show ((max mp dp : Nat) : Int) = (mp : Int) from by omega]; exact hv3.set _)
        · exact (((HB.out.trans ((below_draws (B := w.heap.size) W 1))).trans (hb3.mono (by have := HZ2.out; simp; omega))).setCell (p := ⟨wb.heap.size, 0, none⟩) (by have := HZ2.out; simp; omega) _)
    case done =>
      rintro D ys W hD rfl ⟨hv, hbut, hB⟩ hK
      have hc := hv.cell
      have hf := hv.frozen
      have hwr : IntKind.i64.wrap ((mxF ns m i M (List.finRange M) : Int) + 1) = (mxF ns m i M (List.finRange M) : Int) + 1 := by
        have := hVle.out
        have := hV.out
        exact IntWalk.i64_in _ (by omega)
      have HK := Lib.hid hK
      clear hK
      go_wp2_with fail
      refine ⟨by simp, .inl ⟨_, _, rfl, run_takeDeferred HK.out, ?_⟩⟩
      refine ⟨_, results_tmp rfl _ _ _, ?_, (bw.out.trans hB).trans (belowK_b (w := w) (Nat.le_refl _) W D _ _ (by have := HZ2.out; omega) HK.out rfl rfl)⟩
      rw [hV.out]
      rfl
    case stop =>
      rintro D c pre W _ _ h _
      exact h.elim

end Go.Proofs.YtglnnllodoljkaaDoor
