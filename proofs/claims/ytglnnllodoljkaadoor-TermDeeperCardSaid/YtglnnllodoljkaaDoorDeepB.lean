/- Package term: keys. -/
import Derived.Test.YtglnnllodoljkaaDoorDeepA
import Derived.Test.YtglnnllodoljkaaDoorTermQ
import Derived.Test.YtglnnllodoljkaaDoorShelf
import Derived.Lib.OwnBridge
namespace Go.Proofs.YtglnnllodoljkaaDoor
open Go.RowKit Go.Shelf
set_option linter.unusedVariables false
set_option linter.unusedSimpArgs false

/-- The keys of nodes of ops, in the order of the nodes; and rising, each once. -/
def keyL (ns : List Nd) (ops : List Int) : List Int := (ns.filter (fun n => ops.contains n.op)).map Nd.a
def keyS (ns : List Nd) (ops : List Int) : List Int := (keyL ns ops).mergeSort (fun x y => decide (x ≤ y))
def keysV (ns : List Nd) (ops : List Int) : List Int := Lib.compact (keyS ns ops)
theorem keyL_le (ns : List Nd) (ops : List Int) : (keyL ns ops).length ≤ ns.length := by
  unfold keyL
  rw [List.length_map]
  exact List.length_filter_le _ _
theorem keyS_len (ns : List Nd) (ops : List Int) : (keyS ns ops).length = (keyL ns ops).length := by unfold keyS; rw [List.length_mergeSort]
theorem key_step {ns : List Nd} {ops : List Int} {k : Nat} (h : k < ns.length) : keyL (ns.take (k + 1)) ops = if ops.contains (Nd.at ns k).op = true then keyL (ns.take k) ops ++ [(Nd.at ns k).a] else keyL (ns.take k) ops := by
  unfold keyL
  rw [take_nd h, List.filter_append, List.map_append]
  by_cases hc : ops.contains (Nd.at ns k).op = true
  · rw [if_pos hc]
    simp only [List.filter_cons, hc, if_true, List.filter_nil, List.map_cons, List.map_nil]
  · rw [if_neg hc]
    simp only [List.filter_cons, hc]
    simp
theorem below_growB {N : Nat} {w : World} (os : Array Obj) (h : N ≤ w.heap.size) : Below N w (Sort.grow w os) := ⟨rfl, rfl, rfl, by simp, fun k hk => by
  unfold Sort.grow
  dsimp only
  rw [Array.getElem?_append_left (by omega)]⟩

theorem compact_le (zs : List Int) : (Lib.compact zs).length ≤ zs.length := by
  unfold Lib.compact Lib.compactUpTo
  rw [List.length_map]
  have := List.length_filter_le (Lib.keeps zs.toArray) (List.range zs.length)
  rwa [List.length_range] at this

/-- slices.Sort, then slices.Compact, on a row of one's own. -/
theorem sort_own {base : Nat} {w : World} {v : Value} (zs : List Int) (hl : zs.length ≤ 1000000) (h : w.ownsRow base 3 1 v zs.length (zs.map (Value.int .i64))) (hb : base ≤ w.heap.size) :
    Calls Tryd.prog 52 #[v] w fun e w' => e = .returned (.tuple #[]) ∧ w'.ownsRow base 3 1 v zs.length ((zs.mergeSort (fun x y => decide (x ≤ y))).map (Value.int .i64)) ∧ Below base w w' := by
  by_cases hz : zs = []
  · subst hz
    obtain ⟨a, cap, rfl, _⟩ := owned_parts h
    refine (Tryd.slices_Sort_int_none a cap w).mono ?_
    rintro e w' ⟨rfl, rfl⟩
    exact ⟨rfl, by simpa using h, Below.refl _ _⟩
  · have hv : v ≠ .slice none 0 0 := fun e => by
      subst e
      rcases h.2 with ⟨_, h2⟩ | ⟨g, cap, cur, h2, _⟩
      · exact hz (List.length_eq_zero_iff.1 h2)
      · cases h2
    obtain ⟨g, cap, rfl, hbg, hg, hc1, hc2, _, hH⟩ := Lib.holds_of_ownsRow h hv
    refine (Tryd.slices_Sort_int g 0 cap zs w hH hg (by omega)).mono ?_
    rintro e w' ⟨rfl, n, os, rfl⟩
    have h1 := Lib.ownsRow_putRow (q := n) (k := zs.length) (ys := zs.mergeSort (fun x y => decide (x ≤ y))) h (List.length_mergeSort zs) (Nat.le_refl _)
    rw [List.take_of_length_le (by rw [List.length_mergeSort]; exact Nat.le_refl _)] at h1
    have hb1 : Below base w (Sort.putRow (Value.int .i64) (Sort.ahead w n) g 0 (zs.mergeSort (fun x y => decide (x ≤ y))).toArray) := Lib.below_putRow (Below.refl _ _) hbg
    have hb2 := below_growB (w := Sort.putRow (Value.int .i64) (Sort.ahead w n) g 0 (zs.mergeSort (fun x y => decide (x ≤ y))).toArray) os (Nat.le_refl _)
    exact ⟨rfl, h1.kept (row := none) (below_grown hb2) (Classical.em _), hb1.trans (hb2.mono (by rw [Sort.size_putRow, Sort.heap_ahead]; exact hb))⟩
theorem compact_own {base : Nat} {w : World} {v : Value} (zs : List Int) (hl : zs.length ≤ 1000000) (h : w.ownsRow base 3 1 v zs.length (zs.map (Value.int .i64))) (hb : base ≤ w.heap.size) :
    Calls Tryd.prog 53 #[v] w fun e w' => ∃ v', e = .returned v' ∧ w'.ownsRow base 3 1 v' (Lib.compact zs).length ((Lib.compact zs).map (Value.int .i64)) ∧ Below base w w' := by
  by_cases hz : zs = []
  · subst hz
    obtain ⟨a, cap, rfl, _⟩ := owned_parts h
    refine (Tryd.slices_Compact_int_empty a cap w).mono ?_
    rintro e w' ⟨rfl, rfl⟩
    exact ⟨_, rfl, h, Below.refl _ _⟩
  · have hv : v ≠ .slice none 0 0 := fun e => by
      subst e
      rcases h.2 with ⟨_, h2⟩ | ⟨g, cap, cur, h2, _⟩
      · exact hz (List.length_eq_zero_iff.1 h2)
      · cases h2
    obtain ⟨g, cap, rfl, hbg, hg, hc1, hc2, _, hH⟩ := Lib.holds_of_ownsRow h hv
    refine (Tryd.slices_Compact_int g 0 cap zs w hH (by omega) hc1).mono ?_
    rintro e w' ⟨rfl, n, rfl⟩
    have hcl : (Lib.compact zs).length ≤ zs.length := compact_le zs
    have h1 := Lib.ownsRow_putRow (q := n) (k := (Lib.compact zs).length) (ys := Lib.compact zs ++ List.replicate (zs.length - (Lib.compact zs).length) 0) h (by rw [List.length_append, List.length_replicate]; omega) hcl
    rw [List.take_left] at h1
    exact ⟨_, rfl, h1, Lib.below_putRow (Below.refl _ _) hbg⟩

theorem own_after2 {w w' : World} {base e size n : Nat} {v : Value} {xs : List Value} (h : w.ownsRow base e size v n xs) (hb : Below w.heap.size w w') : w'.ownsRow base e size v n xs := h.kept (row := none) (below_grown hb) (Classical.em _)
def KeysEnd (ns : List Nd) (ops : List Int) (w : World) (e : Ending) (w' : World) : Prop :=
  ∃ v, e = .returned (.tuple #[v, .int .i64 (chkV ns)]) ∧ (chkV ns = 0 → w'.ownsRow w.heap.size 3 1 v (keysV ns ops).length ((keysV ns ops).map (Value.int .i64))) ∧ (chkV ns ≠ 0 → v = .slice none 0 0) ∧ Below w.heap.size w w'

set_option maxHeartbeats 2000000 in
set_option maxRecDepth 100000 in
theorem keysl_ok (a : Option Addr) (cap : Nat) (ns : List Nd) (hl : ns.length ≤ 1000000) (hI : NdsIn ns) (bo oo : Nat) (ocap : Nat) (ops : List Int) (hol : ops.length ≤ 1000) (w : World) (hS : ShapesAt w) (hN : NdsAt w a ns) (hO : ∀ j, j < ops.length → w.cell? ⟨bo, oo + j, none⟩ = some (.int .i64 (ops.getD j 0))) :
    Calls Tryd.prog 43 #[.slice a ns.length cap, .slice (some ⟨bo, oo, none⟩) ops.length ocap] w (KeysEnd ns ops w) := by
  have HC := Lib.hid (check_ok a cap ns hl hI w hS hN)
  have HN := Lib.hid hN
  have HO := Lib.hid hO
  have HEND : Hid (KeysEnd ns ops w = fun e w' => ∃ v, e = .returned (.tuple #[v, .int .i64 (chkV ns)]) ∧ (chkV ns = 0 → w'.ownsRow w.heap.size 3 1 v (keysV ns ops).length ((keysV ns ops).map (Value.int .i64))) ∧ (chkV ns ≠ 0 → v = .slice none 0 0) ∧ Below w.heap.size w w') := rfl
  have HST := Lib.hid (fun k h => key_step (ns := ns) (ops := ops) (k := k) h)
  have HLE := Lib.hid (fun k => keyL_le (ns.take k) ops)
  have HLL := Lib.hid (keyL_le ns ops)
  obtain ⟨i0, hi, hz0, hz1, hz2⟩ := info_parts infoInt
  obtain ⟨C, hC⟩ : ∃ V, chkV ns = V := ⟨_, rfl⟩
  rw [hC] at HC HEND
  clear hS hN hI hC hO
  go_enter Tryd.func43, Tryd.ntmps43
  go_wp2_with fail
  with_reducible refine HC.out.mono ?_
  rintro e w1 ⟨rfl, hb1⟩
  by_cases h0 : C = 0
  rotate_left
  · have h0b : (C != 0) = true := by simp [h0]
    go_wp2_with fail
    rw [HEND.out]
    refine bodyPost_ret (results_tmp2 rfl _ _ _) rfl ?_
    exact ⟨_, rfl, fun h => absurd h h0, fun _ => rfl, hb1⟩
  subst h0
  go_wp2_with fail
  go_loopw [7, 17] (fun v c wr => ∃ k : Nat, k ≤ ns.length ∧ c = .int .i64 (k : Int) ∧ Hid (wr.ownsRow w.heap.size 3 1 v (keyL (ns.take k) ops).length ((keyL (ns.take k) ops).map (Value.int .i64))) ∧ Hid (Below w.heap.size w wr)) (fun _ c _ => ns.length - (intOf c).toNat)
  case atStart => exact ⟨0, by omega, by simp, (show w1.ownsRow _ _ _ _ _ _ by simpa [keyL] using World.ownsRow_nil w1 w.heap.size 3 1), hb1⟩
  case round =>
    obtain ⟨k, hk, rfl, HOW, HBL⟩ := hrel
    by_cases hlt : k < ns.length
    · have hlt' : (k : Int) < (ns.length : Int) := by omega
      have hst := Lib.hid (HST.out k hlt)
      obtain ⟨b, o, rfl, hc⟩ := (HN.out.after HBL.out) (by omega)
      have c0 : wr.cell? ⟨b, o + k * 5, none⟩ = some (.int .i64 (Nd.at ns k).op) := hc k hlt 0 _ rfl
      have c1 : wr.cell? ⟨b, o + k * 5 + 1, none⟩ = some (.int .i64 (Nd.at ns k).a) := hc k hlt 1 _ rfl
      have c2 : wr.cell? ⟨b, o + k * 5 + 2, none⟩ = some (.int .i64 (Nd.at ns k).b) := hc k hlt 2 _ rfl
      have c3 : wr.cell? ⟨b, o + k * 5 + 3, none⟩ = some (.int .i64 (Nd.at ns k).num) := hc k hlt 3 _ rfl
      have c4 : wr.cell? ⟨b, o + k * 5 + 4, none⟩ = some (.int .i64 (Nd.at ns k).den) := hc k hlt 4 _ rfl
      clear hc
      obtain ⟨⟨op, na, nb, nn, nd⟩, hnn⟩ : ∃ n, Nd.at ns k = n := ⟨_, rfl⟩
      rw [hnn] at c0 c1 c2 c3 c4
      dsimp only at c0 c1 c2 c3 c4
      rw [hnn] at hst
      dsimp only at hst
      obtain ⟨wq, hwq⟩ : ∃ wq, wr.alloc (.cells #[.int .i64 0, .int .i64 0, .int .i64 0, .int .i64 0, .int .i64 0] 47) = wq := ⟨_, rfl⟩
      have kq : Blk wq wr.heap.size #[.int .i64 0, .int .i64 0, .int .i64 0, .int .i64 0, .int .i64 0] 47 := by rw [← hwq]; exact Blk.new _ _ _
      have bq : Hid (Below wr.heap.size wr wq) := by show Below _ _ _; rw [← hwq]; exact (Below.refl _ _).alloc (Nat.le_refl _) _
      have f0 := kq.free 0
      have f1 := kq.free 1
      have f2 := kq.free 2
      have f3 := kq.free 3
      have f4 := kq.free 4
      have e0 : wq.cell? ⟨wr.heap.size, 0, none⟩ = some (.int .i64 0) := kq.cell 0 rfl
      have e1 : wq.cell? ⟨wr.heap.size, 1, none⟩ = some (.int .i64 0) := kq.cell 1 rfl
      have e2 : wq.cell? ⟨wr.heap.size, 2, none⟩ = some (.int .i64 0) := kq.cell 2 rfl
      have e3 : wq.cell? ⟨wr.heap.size, 3, none⟩ = some (.int .i64 0) := kq.cell 3 rfl
      have e4 : wq.cell? ⟨wr.heap.size, 4, none⟩ = some (.int .i64 0) := kq.cell 4 rfl
      obtain ⟨wx, hwx⟩ : ∃ wx, ((((wq.setCell ⟨wr.heap.size, 0, none⟩ (.int .i64 op)).setCell ⟨wr.heap.size, 1, none⟩ (.int .i64 na)).setCell ⟨wr.heap.size, 2, none⟩ (.int .i64 nb)).setCell ⟨wr.heap.size, 3, none⟩ (.int .i64 nn)).setCell ⟨wr.heap.size, 4, none⟩ (.int .i64 nd) = wx := ⟨_, rfl⟩
      have KX : Hid (Blk wx wr.heap.size #[.int .i64 op, .int .i64 na, .int .i64 nb, .int .i64 nn, .int .i64 nd] 47) := by
        rw [← hwx]
        exact ((((kq.set 0 _).set 1 _).set 2 _).set 3 _).set 4 _
      have bx : Hid (Below wr.heap.size wr wx) := by
        show Below _ _ _
        rw [← hwx]
        exact ((((bq.out.setCell (p := ⟨wr.heap.size, 0, none⟩) (Nat.le_refl _) _).setCell (p := ⟨wr.heap.size, 1, none⟩) (Nat.le_refl _) _).setCell (p := ⟨wr.heap.size, 2, none⟩) (Nat.le_refl _) _).setCell (p := ⟨wr.heap.size, 3, none⟩) (Nat.le_refl _) _).setCell (p := ⟨wr.heap.size, 4, none⟩) (Nat.le_refl _) _
      have x0 : wx.cell? ⟨wr.heap.size, 0, none⟩ = some (.int .i64 op) := KX.out.cell 0 rfl
      have x1 : wx.cell? ⟨wr.heap.size, 1, none⟩ = some (.int .i64 na) := KX.out.cell 1 rfl
      have x2 : wx.cell? ⟨wr.heap.size, 2, none⟩ = some (.int .i64 nb) := KX.out.cell 2 rfl
      clear kq
      have HBX := Lib.hid (HBL.out.trans (bx.out.mono HBL.out.size))
      have HOX := Lib.hid (own_after2 HOW.out bx.out)
      have HCT := Lib.hid (Tryd.slices_Contains_int bo oo ops.length ocap ops op wx (Nat.le_refl _) (by omega) (fun j hj => below_cell HBX.out (HO.out j hj)))
      rw [List.take_length] at HCT
      have hwk : IntKind.i64.wrap ((k : Int) + 1) = (k : Int) + 1 := IntWalk.i64_in _ (by omega)
      have HLT := Lib.hid hlt
      have hkl := Lib.hid (HLE.out k)
      have hzx := HBX.out.size
      clear hnn hlt
      by_cases hct : ops.contains op = true
      · rw [if_pos hct] at hst
        rw [hct] at HCT
        clear hct
        go_wp2_with fail
        with_reducible refine HCT.out.mono ?_
        rintro e w4 ⟨rfl, rfl⟩
        go_wp2_with (at_builtin; refine wpList_append_own _ rfl _ _ 27 rfl w.heap.size 3 i0 _ 1 8 Tryd.underlying27 hi hz0 hz1 hz2 rfl (by decide) _ (keyL (ns.take k) ops).length _ rfl (HOX.out.alloc _) ⟨_, 0, none⟩ 1 1 [.int .i64 na] rfl rfl (cell_one_new _ _ _) (by simp [Value.oneCell']) (by unfold maxLen; have := hkl.out; have := HLT.out; simp at *; omega) (by have := hkl.out; have := HLT.out; simp at *; omega) (by simp; omega) ?_; intro v' w5 hown' hgrow _)
        have hbn := (HBX.out.alloc hzx (.cells #[.int .i64 na] 3)).grown hgrow (by simp; omega) (fun q e => (owned_parts HOX.out).elim fun a h => h.elim fun cap h => by
          obtain ⟨e1, _, _, _, h5, _⟩ := h
          subst e1
          cases a with
          | none => cases e
          | some y => cases e; exact (h5 _ rfl).1)
        refine ⟨⟨k + 1, by have := HLT.out; omega, by go_num, ?_, hbn⟩, by have := HLT.out; simp [intOf]; omega⟩
        show w5.ownsRow _ _ _ _ _ _
        rw [hst.out, List.length_append, List.map_append]
        exact hown'
      · have hcf : ops.contains op = false := by simpa using hct
        rw [if_neg hct] at hst
        rw [hcf] at HCT
        clear hct hcf
        go_wp2_with fail
        with_reducible refine HCT.out.mono ?_
        rintro e w4 ⟨rfl, rfl⟩
        go_wp2_with fail
        refine ⟨⟨k + 1, by have := HLT.out; omega, by go_num, by rw [hst.out]; exact HOX, HBX⟩, by have := HLT.out; simp [intOf]; omega⟩
    · obtain rfl : k = ns.length := by omega
      rw [List.take_length] at HOW
      have hlt0 := HBL.out.size
      have HSO := Lib.hid (sort_own (keyL ns ops) (by have := HLL.out; omega) HOW.out HBL.out.size)
      go_wp2_with fail
      with_reducible refine HSO.out.mono ?_
      rintro e w4 ⟨rfl, hown4, hb4⟩
      have HCO := Lib.hid (compact_own (base := w.heap.size) (keyS ns ops) (by rw [keyS_len]; have := HLL.out; omega) (by rw [keyS_len]; exact hown4) (Nat.le_trans hlt0 hb4.size))
      have HB4 := Lib.hid (HBL.out.trans hb4)
      clear hown4 hb4 HSO
      go_wp2_with fail
      with_reducible refine HCO.out.mono ?_
      rintro e w6 ⟨v6, rfl, hown6, hb6⟩
      have HO6 := Lib.hid hown6
      have HB6 := Lib.hid (HB4.out.trans hb6)
      clear hown6 hb6 HCO
      go_wp2_with fail
      rw [HEND.out]
      refine bodyPost_ret (results_tmp2 rfl _ _ _) rfl ?_
      exact ⟨_, rfl, fun _ => HO6.out, fun h => absurd rfl h, HB6.out⟩

end Go.Proofs.YtglnnllodoljkaaDoor
