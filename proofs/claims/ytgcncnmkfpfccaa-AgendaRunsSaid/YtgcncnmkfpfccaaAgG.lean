/- Package agenda: the pile's Pop. -/
import Derived.Test.YtgcncnmkfpfccaaAgF
namespace Go.Proofs.Ytgcncnmkfpfccaa
open Go.RowKit Go.Sort Go.Shelf
set_option linter.unusedVariables false
set_option linter.unusedSimpArgs false

theorem cellsL_take : ∀ (L : List It) (m : Nat), (cellsL encI L).take (m * 3) = cellsL encI (L.take m)
  | [], m => by simp [cellsL]
  | a :: L, 0 => by simp [cellsL]
  | a :: L, m + 1 => by
    have e : (m + 1) * 3 = m * 3 + 1 + 1 + 1 := by omega
    rw [List.take_succ_cons, cellsL, cellsL, ← cellsL_take L m, e]
    simp [encI]
theorem own_take {w : World} {base g cap : Nat} {e : TypeId} {L : List It} (h : w.ownsRow base e 3 (.slice (some ⟨g, 0, none⟩) L.length cap) L.length (cellsL encI L)) {m : Nat} (hm : m ≤ L.length) :
    w.ownsRow base e 3 (.slice (some ⟨g, 0, none⟩) m cap) m (cellsL encI (L.take m)) := by
  refine ⟨by rw [cellsL_len (enc := encI) (size := 3) (fun _ => rfl), List.length_take, Nat.min_eq_left hm], ?_⟩
  rcases h.2 with ⟨e0, _⟩ | ⟨g', cap', cur, e1, hb, hg, hnc, hmm, hsz, ht⟩
  · cases e0
  · cases e1
    refine Or.inr ⟨g, cap, cur, rfl, hb, hg, Nat.le_trans hm hnc, hmm, hsz, ?_⟩
    rw [← cellsL_take, ← ht, List.take_take, Nat.min_eq_left (by omega)]
def PopEnd (w : World) (base B bm : Nat) (sv : Value) (L : List It) (N : Int) (x : It) (e : Ending) (w' : World) : Prop :=
  ∃ sv', e = .returned (.iface 31 (.agg (encI x).toArray)) ∧ PAt w' base B bm sv' L N ∧ Turn (PAt.bs B bm sv) w w' ∧ sv'.ownBlock = sv.ownBlock
theorem plcs_pop {w : World} {bm : Nat} {L : List It} {x : It} (hn : Nos L) (hx : L[L.length - 1]? = some x) (h : MapAt OkN w bm (lessKey (.int .i64 x.n) (plcs L))) : MapAt OkN w bm (plcs (L.take (L.length - 1))) := by
  have hn' : Nos (L.take (L.length - 1)) := List.Nodup.sublist (List.Sublist.map _ (List.take_sublist _ _)) hn
  have hl := (List.getElem?_eq_some_iff.1 hx).1
  refine h.congr (plcs_perm h.nodup hn' fun p => ?_)
  rw [mem_lessKey, plcs_mem, plcs_mem]
  constructor
  · rintro ⟨⟨j, z, hz, rfl⟩, h2⟩
    have hj := (List.getElem?_eq_some_iff.1 hz).1
    have : j ≠ L.length - 1 := fun e => h2 (by subst e; rw [hz] at hx; cases hx; rfl)
    exact ⟨j, z, by rw [List.getElem?_take_of_lt (by omega)]; exact hz, rfl⟩
  · rintro ⟨j, z, hz, rfl⟩
    have hj := (List.getElem?_eq_some_iff.1 hz).1
    rw [List.length_take] at hj
    rw [List.getElem?_take_of_lt (by omega)] at hz
    refine ⟨⟨j, z, hz, rfl⟩, fun e => ?_⟩
    have := hn.one hz hx (by simpa using e)
    omega
set_option maxHeartbeats 4000000 in
set_option maxRecDepth 100000 in
theorem ppop_ok (base B bm : Nat) (sv : Value) (L : List It) (N : Int) (x : It) (hx : L[L.length - 1]? = some x) (hl : L.length ≤ 1000000) (w : World) (h : PAt w base B bm sv L N) :
    Calls Try.prog 83 #[.pointer (some ⟨B, 0, none⟩)] w (PopEnd w base B bm sv (L.take (L.length - 1)) N x) := by
  have hmx : Try.prog.follows .mixedOrders = true := by kernel_rfl
  have hl0 := (List.getElem?_eq_some_iff.1 hx).1
  have hne := h.ne
  obtain ⟨g, cap, rfl, hbg, hgl, hcap, hmax, hc⟩ := row_parts h.own rfl (by omega)
  have hgB := (hne.2 g rfl).1
  have hgm := (hne.2 g rfl).2
  obtain ⟨⟨a0, a1, a2⟩, _⟩ := hc _ x hx
  have c0 : w.cell? ⟨B, 0, none⟩ = some (.slice (some ⟨g, 0, none⟩) L.length cap) := h.blk.cell 0 rfl
  have cf := h.blk.free 0
  obtain ⟨m, hm⟩ : ∃ m, L.length - 1 = m := ⟨_, rfl⟩
  have hok := h.map.isOk _ (plcs_mem.2 ⟨_, x, hx, rfl⟩)
  have HX := Lib.hid hx
  rw [hm] at a0 a1 a2
  have wm : IntKind.i64.wrap ((L.length : Int) - 1) = (m : Int) := by rw [IntWalk.i64_in _ (by omega)]; omega
  have i1 : (0 : Int) ≤ (m : Int) := by omega
  have i2 : (m : Int) < (L.length : Int) := by omega
  have i3 : (m : Int) ≤ (cap : Int) := by omega
  obtain ⟨xd, xn, xt⟩ := x
  dsimp only [encI] at a0 a1 a2 hok ⊢
  obtain ⟨w0, hw0⟩ : ∃ W, w.alloc (.cells #[.int .i64 xd, .int .i64 xn, .int .i64 xt] 31) = W := ⟨_, rfl⟩
  have hb0 : Below w.heap.size w w0 := by rw [← hw0]; exact (Below.refl _ _).alloc (Nat.le_refl _) _
  have KX : Blk w0 w.heap.size #[.int .i64 xd, .int .i64 xn, .int .i64 xt] 31 := by rw [← hw0]; exact Blk.new _ _ _
  have h0 := h.after hb0
  have q0 : w0.cell? ⟨B, 0, none⟩ = some (.slice (some ⟨g, 0, none⟩) L.length cap) := h0.blk.cell 0 rfl
  have qf := h0.blk.free 0
  rw [← hw0] at q0 qf
  have HH := Lib.hid h0
  have HKX := Lib.hid KX
  have HW0 := Lib.hid hw0
  have HB0 := Lib.hid hb0
  have HM := Lib.hid hm
  clear hw0 h h0 KX hb0 hc hx hm
  go_enter Try.func83, Try.ntmps83
  go_wp2_with fail
  rw [HW0.out]
  obtain ⟨w1, hw1⟩ : ∃ W, w0.setCell ⟨B, 0, none⟩ (.slice (some ⟨g, 0, none⟩) m cap) = W := ⟨_, rfl⟩
  have hg1 : w0.grownBy w1 (some B) := by rw [← hw1]; exact grown_setCell _ _ _ _
  have k1 : Blk w1 B #[.slice (some ⟨g, 0, none⟩) m cap, .map (some bm), .int .i64 N] 65 := by rw [← hw1]; exact HH.out.blk.set 0 _
  have x1 : Blk w1 w.heap.size #[.int .i64 xd, .int .i64 xn, .int .i64 xt] 31 := HKX.out.grown hg1 (fun e => by have h1 := HH.out.blk; simp only [Option.some.injEq] at e; subst e; have k : w0.heap[w.heap.size]? = _ := HKX.out; have k' : w0.heap[w.heap.size]? = _ := h1; rw [k] at k'; simp at k')
  have o1 := own_kept HH.out.own hg1 (fun g' hg' e => by simp only [Value.ownBlock, Option.some.injEq] at hg' e; omega)
  have m1 := HH.out.map.kept hg1 (fun e => hne.1 (by simpa using e))
  have HO1 := Lib.hid (own_take o1 (m := m) (by omega))
  have HM1 := Lib.hid m1
  have HK1 := Lib.hid k1
  have p1 : w1.cell? ⟨B, 1, none⟩ = some (.map (some bm)) := k1.cell 1 rfl
  have y0 : w1.cell? ⟨w.heap.size, 0, none⟩ = some (.int .i64 xd) := x1.cell 0 rfl
  have y1 : w1.cell? ⟨w.heap.size, 1, none⟩ = some (.int .i64 xn) := x1.cell 1 rfl
  have y2 : w1.cell? ⟨w.heap.size, 2, none⟩ = some (.int .i64 xt) := x1.cell 2 rfl
  have HX1 := Lib.hid x1
  have HT1 : Hid (Turn (PAt.bs B bm (.slice (some ⟨g, 0, none⟩) L.length cap)) w w1) := (Turn.of_below HB0.out).trans (Turn.of_grown hg1 (by simp [PAt.bs]))
  rw [hw1]
  clear hw1 hg1 k1 x1 o1 m1 q0 qf a0 a1 a2 c0 cf
  go_still_tail 6, hmx
  refine wpList_del _ rfl _ _ 61 rfl keyN Try.underlying61 rfl (HM1.out.after ((Below.refl _ _).drew)) (.int .i64 xn) rfl hok ?_
  intro w3 hm3 hg3 hs3
  have hd0 : Below w1.heap.size w1 w1.drew := (Below.refl _ _).drew
  have hg3' : w1.drew.grownBy w3 (some bm) := hg3
  have o3 := own_kept (ownsRow_after HO1.out hd0) hg3' (fun g' hg' e => by simp only [Value.ownBlock, Option.some.injEq] at hg' e; omega)
  have k3 := (HK1.out.after hd0).grown hg3' (fun e => by simp only [Option.some.injEq] at e; exact hne.1 e.symm)
  have x3 := (HX1.out.after hd0).grown hg3' (fun e => by simp only [Option.some.injEq] at e; have hm := HM1.out; obtain ⟨es, cc, hm1, _⟩ := hm; have hk : w1.heap[w.heap.size]? = _ := HX1.out; rw [← e, hm1] at hk; cases hk)
  have HFin : Hid (PopEnd w base B bm (.slice (some ⟨g, 0, none⟩) L.length cap) (L.take (L.length - 1)) N ⟨xd, xn, xt⟩ (.returned (.iface 31 (.agg #[.int .i64 xd, .int .i64 xn, .int .i64 xt]))) w3) := by
    have hlen : (L.take m).length = m := by rw [List.length_take]; omega
    refine ⟨.slice (some ⟨g, 0, none⟩) m cap, rfl, ⟨k3, ?_, plcs_pop ((nos_iff L).1 HM1.out.nodup) HX.out hm3, HH.out.hB, HH.out.hm⟩, ?_, rfl⟩
    · rw [HM.out, hlen]
      exact o3
    · exact (HT1.out.trans (Turn.of_below hd0 |> fun h => (⟨h.os, h.tape, h.output, h.size, h.block⟩ : Turn _ _ _))).trans (Turn.of_grown hg3' (by simp [PAt.bs]))
  have r0 := x3.cell 0 (v := .int .i64 xd) rfl
  have r1 := x3.cell 1 (v := .int .i64 xn) rfl
  have r2 := x3.cell 2 (v := .int .i64 xt) rfl
  clear hm3 hg3 hs3 hg3' o3 k3 x3 hd0 p1 y0 y1 y2
  go_wp2_with fail
  go_ret
  exact HFin.out

end Go.Proofs.Ytgcncnmkfpfccaa
