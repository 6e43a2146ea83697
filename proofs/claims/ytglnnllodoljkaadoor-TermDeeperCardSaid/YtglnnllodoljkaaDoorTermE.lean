/- Package term: Below. -/
import Derived.Test.YtglnnllodoljkaaDoorTermD
import Derived.RangeFuncBox
import Derived.Maps.AppendAt
namespace Go.Proofs.YtglnnllodoljkaaDoor
open Go.RowKit Go.Shelf
set_option linter.unusedVariables false
set_option linter.unusedSimpArgs false
attribute [local go_sem] Oper.semAt_some

/-- The places of the terms below a node. -/
def placesV (ns : List Nd) (i : Int) : List Int :=
  if (sizeV ns i).2 = 0 then (kidsL ns i.toNat (mny (Nd.at ns i.toNat).op)).map (·.2) else []
def BelowEnd (ns : List Nd) (i : Int) (w : World) (e : Ending) (w' : World) : Prop :=
  ∃ v, e = .returned (.tuple #[v, .int .i64 (sizeV ns i).2]) ∧ w'.ownsRow w.heap.size 3 1 v (placesV ns i).length ((placesV ns i).map (Value.int .i64)) ∧ Below w.heap.size w w'

theorem leave_ret2 {f : Func} {a : Act} {R : Ending → World → Prop} {w : World} {P : Program} (hd : a.defers = []) (h : ∃ v, (results f a.tmps).run P w = .ok v w ∧ R (.returned v) w) : bodyPostM Fence.wide 5 P f R .ret a w := by
  show LeavesInM Fence.wide 5 P f a.tmps R a.defers .returning w
  rw [hd]
  exact h

theorem sizeV_ok {ns : List Nd} {i : Int} (h : (sizeV ns i).2 = 0) : ∃ j q : Nat, i = j ∧ j < ns.length ∧ skip 1 ((opsOf ns).drop j) = some q := by
  unfold sizeV at h
  split at h
  · simp at h
  · rename_i h1
    split at h
    · rename_i q hq
      exact ⟨i.toNat, q, by omega, by omega, hq⟩
    · simp at h
theorem own_base {w : World} {base base' e size n : Nat} {v : Value} {xs : List Value} (h : w.ownsRow base e size v n xs) (hb : base' ≤ base) : w.ownsRow base' e size v n xs := by
  obtain ⟨h1, h2⟩ := h
  refine ⟨h1, ?_⟩
  rcases h2 with h2 | ⟨g, cap, cur, hv, hg, r⟩
  · exact Or.inl h2
  · exact Or.inr ⟨g, cap, cur, hv, Nat.le_trans hb hg, r⟩
/-- The store of what was appended: what stays. -/
theorem But.appended {W w1 : World} {tmp : Obj} {n₀ X base e size k : Nat} {v v' : Value} {xs : List Value} (hown : W.ownsRow base e size v k xs) (hn : n₀ ≤ base) (hW : n₀ ≤ W.heap.size) (hg : (W.alloc tmp).grownBy w1 v.ownBlock) : But n₀ X W (w1.setCell ⟨X, 0, none⟩ v') := by
  have h1 : W.grownBy (W.alloc tmp) none := World.grownBy_alloc W tmp none
  refine ⟨?_, fun j hj hx => ?_⟩
  · have := hg.size
    simp at this
    simpa [World.setCell] using (by omega : W.heap.size ≤ w1.heap.size)
  · have hne : some j ≠ v.ownBlock := by
      rcases hown.2 with ⟨rfl, _⟩ | ⟨g, cap, cur, rfl, hg', _⟩
      · simp [Value.ownBlock]
      · intro e
        simp only [Value.ownBlock, Option.some.injEq] at e
        omega
    have h3 := (grown_setCell w1 X 0 v').block j (by have := hg.size; simp at this; omega) (by simp; exact hx)
    exact h3.trans ((hg.block j (by simp; omega) hne).trans (h1.block j (by omega) (by simp)))

set_option maxHeartbeats 2000000 in
set_option maxRecDepth 100000 in
theorem below_ok (a : Option Addr) (cap : Nat) (ns : List Nd) (hl : ns.length ≤ 1000000) (i : Int) (w : World) (hS : ShapesAt w) (hN : NdsAt w a ns) :
    Calls Tryd.prog 12 #[.slice a ns.length cap, .int .i64 i] w (BelowEnd ns i w) := by
  have HZ := Lib.hid (size_ok a cap ns hl i w hS hN)
  have HN := Lib.hid hN
  have HS := Lib.hid hS
  clear hN hS
  unfold SizeEnd at HZ
  obtain ⟨er, her⟩ : ∃ er, (sizeV ns i).2 = er := ⟨_, rfl⟩
  obtain ⟨sz, hsz⟩ : ∃ sz, (sizeV ns i).1 = sz := ⟨_, rfl⟩
  rw [her, hsz] at HZ
  have HER := Lib.hid her
  have HSZ := Lib.hid hsz
  clear her hsz
  refine (callsIn_wide (n := 5)).1 ?_
  refine callsIn_of_wp_marks Tryd.func12 rfl trivial ?_ rfl
  simp only [Tryd.ntmps12, List.size_toArray, List.length_cons, List.length_nil, Nat.reduceAdd, Nat.reduceSub, Array.replicate_succ, Array.replicate_zero, List.push_toArray, List.append_toArray, List.nil_append, List.cons_append]
  refine wpIn_wide.2 ?_
  go_wp2_with fail
  with_reducible refine HZ.out.mono ?_
  rintro e w1 ⟨rfl, hb1⟩
  by_cases h0 : er = 0
  · subst h0
    obtain ⟨j, q, rfl, hj, hq⟩ := sizeV_ok HER.out
    obtain ⟨i0, hi, hz0, hz1, hz2⟩ := info_parts infoInt
    have HQ := Lib.hid hq
    clear hq
    go_wp2_with fail
    obtain ⟨wa, hwa⟩ : ∃ wa, w1.alloc (.cells #[.slice none 0 0] 27) = wa := ⟨_, rfl⟩
    rw [hwa]
    have za : wa.heap.size = w1.heap.size + 1 := by rw [← hwa]; simp
    have ba : Below w1.heap.size w1 wa := by rw [← hwa]; exact (Below.refl _ _).alloc (Nat.le_refl _) _
    have bO : Boxed wa w1.heap.size 27 (.slice none 0 0) := by rw [← hwa]; exact Boxed.new _ _ _
    with_reducible refine (kids_ok a ns.length cap j wa).mono ?_
    rintro e w2 ⟨rfl, hw2⟩
    have z2 : w2.heap.size = wa.heap.size + 2 := by rw [hw2]; simp
    have b2 : Below wa.heap.size wa w2 := by rw [hw2]; exact ((Below.refl _ _).alloc (Nat.le_refl _) _).alloc (by simp) _
    have bO2 : Boxed w2 w1.heap.size 27 (.slice none 0 0) := by rw [hw2]; exact (bO.alloc _).alloc _
    have ht : w2.cell? ⟨wa.heap.size, 0, none⟩ = some (.slice a ns.length cap) := by rw [hw2]; exact cell_alloc_l _ (cell_new_l _ _ _).1
    have hj2 : w2.cell? ⟨wa.heap.size + 1, 0, none⟩ = some (.int .i64 j) := by
      rw [hw2]
      have := (cell_new_l (wa.alloc (.cells #[.slice a ns.length cap] 22)) (.int .i64 j) 3).1
      rwa [World.size_alloc] at this
    have zw1 := hb1.size
    have bw : Below w.heap.size w w2 := (hb1.trans (ba.mono zw1)).trans (b2.mono (by omega))
    have hs0 : 0 < w.heap.size := World.block_lt_of_cell? w _ (HS.out 0 (by omega) 0 (by omega))
    have hab : ∀ x, a = some x → x.block < w.heap.size := fun x e => by
      obtain ⟨b, o, e', hlt⟩ := RowsAt.lt HN.out (by omega) (by simp [Nd.row])
      rw [e] at e'
      cases e'
      exact hlt
    have HKA : Hid (KidsAt w2 (w1.heap.size + 3) (wa.heap.size + 1) wa.heap.size j a cap ns) := ⟨HS.out.after bw, HN.out.after bw, hj2, ht⟩
    have HOO := Lib.hid bO2
    have HHB := Lib.hid bw
    rw [za] at HKA z2
    clear bO bO2 ht hj2 hw2 hwa ba b2 HZ hb1 bw
    go_wp2_with fail
    refine wpIn_wide (n := 5) |>.1 ?_
    refine wpIn_rangeFunc_ownF rfl (by omega) (gf := 44) (lb := #[.pointer (some ⟨w1.heap.size + 1 + 1, 0, none⟩), .pointer (some ⟨w1.heap.size + 1, 0, none⟩)]) rfl trivial (enters_of Tryd.func44 (by kernel_rfl) rfl)
      (kids_stops _ (by omega) w1.heap.size (w1.heap.size + 3) _ _ j a cap ns hl q HQ.out w2 HKA.out (by omega) (by omega) (fun x e => by have := hab x e; omega) (by omega) (by omega) (by omega) (fun x e => by have := hab x e; omega) (by omega) (by omega)) But.trans (But.putObj (by omega)) (Below.refl _ _) (fun _ => rfl)
      (fun (pre : List (Int × Int)) W => (∃ v, Boxed W w1.heap.size 27 v ∧ W.ownsRow (w1.heap.size + 3) 3 1 v pre.length (pre.map fun x => Value.int .i64 x.2) ∧ True) ∧ Below w.heap.size w2 W)
      (fun _ _ _ => False)
      (OwnFrom.and (Own.from (holdsRow_own (w1.heap.size + 3) w1.heap.size 27 3 1 (fun (pre : List (Int × Int)) => pre.length) (fun (pre : List (Int × Int)) => pre.map fun x => Value.int .i64 x.2) (fun pre v => True)) _) (ownFrom_below (by omega) (by omega)))
      (fun _ _ _ _ _ hs _ _ => hs)
      ⟨⟨_, HOO.out, World.ownsRow_nil _ _ _ _, trivial⟩, Below.refl _ _⟩
      ?a1 ?assign ?body ?done ?stop
    case assign =>
      intro l x W K hK
      have hK' := Lib.hid hK
      clear hK
      gi_wp2
      exact hK'.out
    case body =>
      rintro l pre x W ⟨⟨v, hv, hrow, _⟩, hB⟩ hlt
      have hc := hv.cell
      have hf := hv.frozen
      have hm4 := (mny_int (Nd.at ns j).op).2
      have hB2 := hB.size
      have hpl : pre.length ≤ 4 := by omega
      have hW3 : w1.heap.size + 3 ≤ W.heap.size := by omega
      have hwW : w.heap.size ≤ W.heap.size := by omega
      obtain ⟨x1, x2⟩ := x
      dsimp only
      gi_wp2_with (gi_at_builtin; refine wpListIn_append_own _ rfl _ _ 27 rfl (w1.heap.size + 3) 3 i0 (.int .i64 0) 1 8 Tryd.underlying27 hi hz0 hz1 hz2 rfl (by decide) _ _ _ rfl (hrow.alloc _) ⟨W.heap.size, 0, none⟩ 1 1 [.int .i64 x2] rfl rfl (cell_one_new _ _ _) (by simp [Value.oneCell']) (by unfold maxLen; omega) (by omega) (by simp; omega) ?_; intro v' w1' hown' hgrow _; obtain ⟨g', cap', rfl⟩ := ownsRow_succ hown'; obtain ⟨hv1, hv2, hr2, hk2, hb2⟩ := hv.appended (by decide) (own_base hrow (show w.heap.size ≤ w1.heap.size + 3 by omega)) hwW zw1 (own_base hown' (show w.heap.size ≤ w1.heap.size + 3 by omega)) hgrow; have hc1 := hv1.cell; have hf1 := hv1.frozen)
      refine ⟨hk2, But.appended hrow (Nat.le_refl _) hW3 hgrow, ⟨_, hv2, ?_, trivial⟩, hB.trans hb2⟩
      have hr3 := hown'.kept (grown_setCell w1' w1.heap.size 0 (.slice (some ⟨g', 0, none⟩) (pre.length + 1) cap')) (Or.inr (fun e => hv1.not_row (by decide) hown' e.symm))
      simpa using hr3
    case done =>
      rintro D ys W hD rfl ⟨⟨v, hv, hrow, _⟩, hB⟩ hK
      have hc := hv.cell
      have hpv : placesV ns (j : Int) = (kidsL ns j (mny (Nd.at ns j).op)).map (·.2) := by
        unfold placesV
        rw [if_pos HER.out]
        rfl
      go_wp2_with fail
      refine ⟨by simp, .inl ⟨_, _, rfl, run_takeDeferred hK, ?_⟩⟩
      refine ⟨_, results_tmp2 rfl _ _ _, v, ?_, ?_, (HHB.out.trans hB).trans (belowK_b (w := w) (Nat.le_refl _) W D _ _ (by omega) hK rfl rfl)⟩
      · rw [HER.out]; rfl
      · rw [hpv, List.length_map, List.map_map]
        exact own_base (ownsRow_putObj hrow _ hK rfl) (by omega)
    case stop =>
      rintro D c pre W _ _ h _
      exact h.elim
  · go_wp2_with fail
    refine leave_ret2 rfl ⟨_, results_tmp2 rfl _ _ _, .slice none 0 0, ?_, ?_, hb1⟩
    · rw [HER.out]; rfl
    · unfold placesV
      rw [if_neg (by rw [HER.out]; exact h0)]
      exact World.ownsRow_nil _ _ _ _

end Go.Proofs.YtglnnllodoljkaaDoor
