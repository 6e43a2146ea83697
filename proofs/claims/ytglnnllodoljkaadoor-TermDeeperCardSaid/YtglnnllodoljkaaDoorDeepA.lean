/- Package term: Depth, Horizon. -/
import Derived.Test.YtglnnllodoljkaaDoorTermU
import Derived.Test.YtglnnllodoljkaaDoorTermO
namespace Go.Proofs.YtglnnllodoljkaaDoor
open Go.RowKit Go.Shelf
set_option linter.unusedVariables false
set_option linter.unusedSimpArgs false

theorem chk_ok {ns : List Nd} (h : chkV ns = 0) : ofV ns = (2, 0) := by
  unfold chkV at h
  split at h
  · omega
  · rename_i h1
    have h2 : (ofV ns).1 = 2 := by
      rcases Decidable.em ((ofV ns).1 = 2) with h3 | h3
      · exact h3
      · exact absurd ⟨h, h3⟩ h1
    exact Prod.ext h2 h

/-- What Depth answers. -/
def depV (ns : List Nd) : Int := if chkV ns = 0 then (deepF ns ns.length 0 : Int) else 0
set_option maxHeartbeats 1000000 in
set_option maxRecDepth 100000 in
theorem depth_ok (a : Option Addr) (cap : Nat) (ns : List Nd) (hl : ns.length ≤ 1000000) (hI : NdsIn ns) (w : World) (hS : ShapesAt w) (hN : NdsAt w a ns) :
    Calls Tryd.prog 27 #[.slice a ns.length cap] w fun e w' => e = .returned (.tuple #[.int .i64 (depV ns), .int .i64 (chkV ns)]) ∧ Below w.heap.size w w' := by
  have HC := Lib.hid (check_ok a cap ns hl hI w hS hN)
  have HS := Lib.hid hS
  have HN := Lib.hid hN
  have HV : Hid (depV ns = if chkV ns = 0 then (deepF ns ns.length 0 : Int) else 0) := rfl
  have HK := Lib.hid (fun h => ofV_ok (ns := ns) (show (ofV ns).2 = 0 by rw [chk_ok h]))
  have HD := Lib.hid (fun q hq w hS hN => deep_ok a cap ns hl ns.length 0 q (by omega) hq w hS hN)
  rw [show ((0 : Nat) : Int) = 0 from rfl] at HD
  obtain ⟨V, hV⟩ : ∃ V, depV ns = V := ⟨_, rfl⟩
  obtain ⟨C, hC⟩ : ∃ V, chkV ns = V := ⟨_, rfl⟩
  obtain ⟨D, hD⟩ : ∃ V, deepF ns ns.length 0 = V := ⟨_, rfl⟩
  rw [hV, hC, hD] at HV
  rw [hC] at HC HK ⊢
  rw [hD] at HD
  rw [hV]
  clear hS hN hI hV hC hD
  go_enter Tryd.func27, Tryd.ntmps27
  go_wp2_with fail
  with_reducible refine HC.out.mono ?_
  rintro e w1 ⟨rfl, hb1⟩
  by_cases h0 : C = 0
  · subst h0
    rw [if_pos rfl] at HV
    have HDD := Lib.hid (HD.out ns.length (by rw [List.drop_zero]; exact (HK.out rfl).2.2.1) w1 (HS.out.after hb1) (HN.out.after hb1))
    go_wp2_with fail
    with_reducible refine HDD.out.mono ?_
    rintro e w2 ⟨rfl, hb2⟩
    go_wp2_with fail
    go_ret2
    exact ⟨by rw [HV.out]; rfl, hb1.trans (hb2.mono hb1.size)⟩
  · rw [if_neg h0] at HV
    have h0b : (C != 0) = true := by simp [h0]
    go_wp2_with fail
    go_ret2
    exact ⟨by rw [HV.out]; rfl, hb1⟩

/-- One step of the horizon. -/
def horS (s : Int) (n : Nd) : Int := if n.op = 14 then max s n.a else if n.op = 17 then max s n.b else s
def horV (ns : List Nd) : Int := ns.foldl horS (-1)
theorem horS_max (s c : Int) (n : Nd) : horS (max s c) n = max (horS s n) c := by unfold horS; split <;> (try split) <;> omega
theorem hor_max : ∀ (ns : List Nd) (s c : Int), ns.foldl horS (max s c) = max (ns.foldl horS s) c
  | [], _, _ => rfl
  | n :: ns, s, c => by rw [List.foldl_cons, List.foldl_cons, horS_max, hor_max ns]
theorem take_nd {ns : List Nd} {k : Nat} (h : k < ns.length) : ns.take (k + 1) = ns.take k ++ [Nd.at ns k] := by
  rw [List.take_succ_eq_append_getElem h, Nd.at, List.getD_eq_getElem?_getD, List.getElem?_eq_getElem h]
  rfl
theorem hor_step {ns : List Nd} {k : Nat} (h : k < ns.length) : horV (ns.take (k + 1)) = horS (horV (ns.take k)) (Nd.at ns k) := by
  unfold horV
  rw [take_nd h, List.foldl_append]
  rfl

/-- What Horizon answers. -/
def horR (ns : List Nd) : Int := if chkV ns = 0 then horV ns else 0

set_option maxHeartbeats 2000000 in
set_option maxRecDepth 100000 in
theorem horizon_ok (a : Option Addr) (cap : Nat) (ns : List Nd) (hl : ns.length ≤ 1000000) (hI : NdsIn ns) (w : World) (hS : ShapesAt w) (hN : NdsAt w a ns) :
    Calls Tryd.prog 28 #[.slice a ns.length cap] w fun e w' => e = .returned (.tuple #[.int .i64 (horR ns), .int .i64 (chkV ns)]) ∧ Below w.heap.size w w' := by
  have HC := Lib.hid (check_ok a cap ns hl hI w hS hN)
  have HN := Lib.hid hN
  have HH := Lib.hid (fun k h => hor_step (ns := ns) (k := k) h)
  have HTL : Hid (horV (ns.take ns.length) = horV ns) := by show _ = _; rw [List.take_length]
  have HV : Hid (horR ns = if chkV ns = 0 then horV ns else 0) := rfl
  obtain ⟨V, hV⟩ : ∃ V, horR ns = V := ⟨_, rfl⟩
  obtain ⟨C, hC⟩ : ∃ V, chkV ns = V := ⟨_, rfl⟩
  rw [hV, hC] at HV
  rw [hC] at HC ⊢
  rw [hV]
  clear hS hN hI hC hV
  go_enter Tryd.func28, Tryd.ntmps28
  go_wp2_with fail
  with_reducible refine HC.out.mono ?_
  rintro e w1 ⟨rfl, hb1⟩
  by_cases h0 : C = 0
  · subst h0
    rw [if_pos rfl] at HV
    go_wp2_with fail
    go_loopw [5, 15] (fun s c wr => ∃ k : Nat, k ≤ ns.length ∧ c = .int .i64 (k : Int) ∧ s = .int .i64 (horV (ns.take k)) ∧ Hid (Below w.heap.size w wr)) (fun _ c _ => ns.length - (intOf c).toNat)
    case atStart => exact ⟨0, by omega, by simp, by simp [horV], hb1⟩
    case round =>
      obtain ⟨k, hk, rfl, rfl, HBL⟩ := hrel
      by_cases hlt : k < ns.length
      · have hlt' : (k : Int) < (ns.length : Int) := by omega
        have hst := Lib.hid (HH.out k hlt)
        obtain ⟨b, o, rfl, hc⟩ := (HN.out.after HBL.out) (by omega)
        have c0 : wr.cell? ⟨b, o + k * 5, none⟩ = some (.int .i64 (Nd.at ns k).op) := hc k hlt 0 _ rfl
        have c1 : wr.cell? ⟨b, o + k * 5 + 1, none⟩ = some (.int .i64 (Nd.at ns k).a) := hc k hlt 1 _ rfl
        have c2 : wr.cell? ⟨b, o + k * 5 + 2, none⟩ = some (.int .i64 (Nd.at ns k).b) := hc k hlt 2 _ rfl
        have c3 : wr.cell? ⟨b, o + k * 5 + 3, none⟩ = some (.int .i64 (Nd.at ns k).num) := hc k hlt 3 _ rfl
        have c4 : wr.cell? ⟨b, o + k * 5 + 4, none⟩ = some (.int .i64 (Nd.at ns k).den) := hc k hlt 4 _ rfl
        clear hc
        obtain ⟨⟨op, na, nb, nn, nd⟩, hnn⟩ : ∃ n, Nd.at ns k = n := ⟨_, rfl⟩
        rw [hnn] at c0 c1 c2 c3 c4
        dsimp only at c0 c1 c2 c3 c4
        rw [hnn] at hst
        unfold horS at hst
        dsimp only at hst
        obtain ⟨wq, hwq⟩ : ∃ wq, wr.alloc (.cells #[.int .i64 0, .int .i64 0, .int .i64 0, .int .i64 0, .int .i64 0] 47) = wq := ⟨_, rfl⟩
        have kq : Blk wq wr.heap.size #[.int .i64 0, .int .i64 0, .int .i64 0, .int .i64 0, .int .i64 0] 47 := by rw [← hwq]; exact Blk.new _ _ _
        have bq : Hid (Below wr.heap.size wr wq) := by show Below _ _ _; rw [← hwq]; exact (Below.refl _ _).alloc (Nat.le_refl _) _
        have f0 := kq.free 0
        have f1 := kq.free 1
        have f2 := kq.free 2
        have f3 := kq.free 3
        have f4 := kq.free 4
        have e0 : wq.cell? ⟨wr.heap.size, 0, none⟩ = some (.int .i64 0) := kq.cell 0 rfl
        have e1 : wq.cell? ⟨wr.heap.size, 1, none⟩ = some (.int .i64 0) := kq.cell 1 rfl
        have e2 : wq.cell? ⟨wr.heap.size, 2, none⟩ = some (.int .i64 0) := kq.cell 2 rfl
        have e3 : wq.cell? ⟨wr.heap.size, 3, none⟩ = some (.int .i64 0) := kq.cell 3 rfl
        have e4 : wq.cell? ⟨wr.heap.size, 4, none⟩ = some (.int .i64 0) := kq.cell 4 rfl
        obtain ⟨wx, hwx⟩ : ∃ wx, ((((wq.setCell ⟨wr.heap.size, 0, none⟩ (.int .i64 op)).setCell ⟨wr.heap.size, 1, none⟩ (.int .i64 na)).setCell ⟨wr.heap.size, 2, none⟩ (.int .i64 nb)).setCell ⟨wr.heap.size, 3, none⟩ (.int .i64 nn)).setCell ⟨wr.heap.size, 4, none⟩ (.int .i64 nd) = wx := ⟨_, rfl⟩
        have KX : Hid (Blk wx wr.heap.size #[.int .i64 op, .int .i64 na, .int .i64 nb, .int .i64 nn, .int .i64 nd] 47) := by
          rw [← hwx]
          exact ((((kq.set 0 _).set 1 _).set 2 _).set 3 _).set 4 _
        have bx : Hid (Below wr.heap.size wr wx) := by
          show Below _ _ _
          rw [← hwx]
          exact ((((bq.out.setCell (p := ⟨wr.heap.size, 0, none⟩) (Nat.le_refl _) _).setCell (p := ⟨wr.heap.size, 1, none⟩) (Nat.le_refl _) _).setCell (p := ⟨wr.heap.size, 2, none⟩) (Nat.le_refl _) _).setCell (p := ⟨wr.heap.size, 3, none⟩) (Nat.le_refl _) _).setCell (p := ⟨wr.heap.size, 4, none⟩) (Nat.le_refl _) _
        have x0 : wx.cell? ⟨wr.heap.size, 0, none⟩ = some (.int .i64 op) := KX.out.cell 0 rfl
        have x1 : wx.cell? ⟨wr.heap.size, 1, none⟩ = some (.int .i64 na) := KX.out.cell 1 rfl
        have x2 : wx.cell? ⟨wr.heap.size, 2, none⟩ = some (.int .i64 nb) := KX.out.cell 2 rfl
        clear kq
        obtain ⟨s, hs⟩ : ∃ s, horV (ns.take k) = s := ⟨_, rfl⟩
        rw [hs] at hst ⊢
        have HBX := Lib.hid (HBL.out.trans (bx.out.mono HBL.out.size))
        have hwk : IntKind.i64.wrap ((k : Int) + 1) = (k : Int) + 1 := IntWalk.i64_in _ (by omega)
        have HLT := Lib.hid hlt
        clear hs hnn hlt
        by_cases h14 : op = 14
        · rw [if_pos h14] at hst
          have h14b : (op == 14) = true := by simp [h14]
          subst h14
          go_wp2_with fail
          all_goals
            refine ⟨⟨k + 1, by have := HLT.out; omega, by go_num, by rw [hst.out]; congr 1; omega, HBX⟩, by have := HLT.out; simp [intOf]; omega⟩
        · rw [if_neg h14] at hst
          have h14b : (op == 14) = false := by simp [h14]
          by_cases h17 : op = 17
          · rw [if_pos h17] at hst
            subst h17
            go_wp2_with fail
            all_goals
              refine ⟨⟨k + 1, by have := HLT.out; omega, by go_num, by rw [hst.out]; congr 1; omega, HBX⟩, by have := HLT.out; simp [intOf]; omega⟩
          · rw [if_neg h17] at hst
            have h17b : (op == 17) = false := by simp [h17]
            go_wp2_with fail
            all_goals
              refine ⟨⟨k + 1, by have := HLT.out; omega, by go_num, by rw [hst.out], HBX⟩, by have := HLT.out; simp [intOf]; omega⟩
      · obtain rfl : k = ns.length := by omega
        rw [HTL.out]
        go_wp2_with fail
        go_ret2
        exact ⟨by rw [HV.out]; rfl, HBL.out⟩
  · have h0b : (C != 0) = true := by simp [h0]
    go_wp2_with fail
    go_ret2
    rw [if_neg h0] at HV
    exact ⟨by rw [HV.out]; rfl, hb1⟩

end Go.Proofs.YtglnnllodoljkaaDoor
