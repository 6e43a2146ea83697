/- Package agenda: Copy. -/
import Derived.Test.YtgcncnmkfpfccaaAgCa
import Derived.Deep.RegionHeld3
import Derived.Deep.DrawnRows
namespace Go.Proofs.Ytgcncnmkfpfccaa
open Go.RowKit Go.Shelf Go.Sort
set_option linter.unusedVariables false
set_option linter.unusedSimpArgs false

def CopyEnd (w : World) (S : List It) (N : Int) (e : Ending) (w' : World) : Prop :=
  ∃ B bm sv, e = .returned (.pointer (some ⟨B, 0, none⟩)) ∧ AgAt w' w.heap.size B bm sv S N ∧ Below w.heap.size w w'
set_option maxHeartbeats 4000000 in
set_option maxRecDepth 100000 in
theorem copy_ok (base B bm : Nat) (sv : Value) (S : List It) (N : Int) (hl : S.length ≤ 80000) (hN : N ≤ 900000) (w : World) (h : AgAt w base B bm sv S N) :
    Calls Try.prog 23 #[.pointer (some ⟨B, 0, none⟩)] w (CopyEnd w S N) := by
  obtain ⟨L, hP, hG, hp⟩ := h.ex
  have hmm := @run_makeMap Try.prog
  have hmx : Try.prog.follows .mixedOrders = true := by kernel_rfl
  have HNo : Hid (∀ x ∈ L, 0 ≤ x.n ∧ x.n ≤ 900000) := fun x hx => by have := h.no x (hp.mem_iff.1 hx); omega
  have HG := Lib.hid hG
  have HPm := Lib.hid hp
  have hLl : L.length ≤ 80000 := by rw [hp.length_eq]; exact hl
  have HRa := Lib.hid h.ra
  have HNn := Lib.hid h.no
  have HN0 := Lib.hid h.n0
  have HP := Lib.hid hP
  have HC : Hid (∀ W, Below w.heap.size w W → Calls Try.prog 35 #[sv] W (CloneEnd 31 3 L.length (cellsL encI L) W)) := fun W hW => cloneItem_ok base sv L.length (cellsL encI L) W (HP.out.after hW).own (by have := hp.length_eq; omega) (cellsL_len (enc := encI) (size := 3) (fun _ => rfl) L) (cellsL_one (enc := encI) encI_one L)
  have HS : Hid (∀ w' : World, Below w.heap.size w w' → w'.cell? ⟨B, 0, none⟩ = some sv ∧ w'.cell? ⟨B, 2, none⟩ = some (.int .i64 N)) := fun w' hW => ⟨(HP.out.after hW).blk.cell 0 rfl, (HP.out.after hW).blk.cell 2 rfl⟩
  go_enter Try.func23, Try.ntmps23
  go_wp2_with fail
  clear h hP hG hp
  go_region_held3 (fun w' => w'.cell? ⟨B, 0, none⟩ = some sv ∧ w'.cell? ⟨B, 2, none⟩ = some (.int .i64 N))
    (first | with_reducible exact HS.out _ (Below.refl _ _).drew | with_reducible exact HS.out _ ((Below.refl _ _).alloc (Nat.le_refl _) _).drew | with_reducible exact HS.out _ hB5 | go_keep)
    (first
      | (go_at_call 35; (with_reducible refine (HC.out w.drew (Below.refl _ _).drew).mono ?_); rintro e w5 ⟨v5, rfl, ho5, hb5⟩; obtain ⟨a5, c5, rfl, _⟩ := owned_parts ho5; have hB5 : Below w.heap.size w w5 := (Below.refl _ _).drew.trans hb5)
      | (go_at_call 35; (with_reducible refine (HC.out _ ((Below.refl _ _).alloc (Nat.le_refl _) _).drew).mono ?_); rintro e w5 ⟨v5, rfl, ho5, hb5⟩; obtain ⟨a5, c5, rfl, _⟩ := owned_parts ho5; have hB5 : Below w.heap.size w w5 := ((Below.refl w.heap.size w).alloc (Nat.le_refl _) _).drew.trans (hb5.mono (by simp))))
  · have hw5 := hB5.size
    obtain ⟨w9, hw9⟩ : ∃ W, (w5.alloc (.map #[] 0)).alloc (.cells #[.slice a5 L.length c5, .map (some w5.heap.size), .int .i64 N] 65) = W := ⟨_, rfl⟩
    have hb59 : Below w5.heap.size w5 w9 := by rw [← hw9]; exact (((Below.refl w5.heap.size w5).alloc (Nat.le_refl _) _).alloc (by simp) _)
    have K9 : Blk w9 (w5.heap.size + 1) #[.slice a5 L.length c5, .map (some (w5.heap.size)), .int .i64 N] 65 := by rw [← hw9]; exact (by have := Blk.new (w5.alloc (.map #[] 0)) #[.slice a5 L.length c5, .map (some w5.heap.size), .int .i64 N] 65; simpa using this)
    have M9 : MapAt OkN w9 (w5.heap.size) (plcs []) := by rw [← hw9]; exact ((MapAt.made OkN w5).after ((Below.refl _ _).alloc (Nat.le_refl _) _))
    have O9 := ownsRow_after ho5 hb59
    have HBm : Hid (w5.heap.size + 1 ≠ w5.heap.size) := (Nat.succ_ne_self _)
    have HB9 := Lib.hid (hB5.trans (hb59.mono hw5))
    have HK9 := Lib.hid K9
    have HM9 := Lib.hid M9
    have HO9 := Lib.hid O9
    have O9' := O9
    have M9' := M9
    have c0 : w9.cell? ⟨w5.heap.size + 1, 0, none⟩ = some (.slice a5 L.length c5) := K9.cell 0 rfl
    rw [hw9]
    clear hw9 hb59 K9 M9 O9
    have hrow := fun g hg => (own_cells O9' (g := g) hg).2.2
    have hne : ∀ g, (Value.slice a5 L.length c5).ownBlock = some g → g ≠ w5.heap.size := fun g hg e => by
      obtain ⟨cur, hc⟩ := hrow g hg
      obtain ⟨es, cc, hm, _⟩ := M9'
      rw [e] at hc
      rw [hc] at hm
      cases hm
    have HNe := Lib.hid hne
    clear hrow hne O9' M9'
    go_wp2_with fail
    go_loopw [28] (fun i wr => ∃ j : Nat, j ≤ L.length ∧ i = .int .i64 j ∧ Hid (MapAt OkN wr (w5.heap.size) (plcs (L.take j)) ∧ Turn [w5.heap.size] w9 wr)) (fun i _ => L.length - (intOf i).toNat)
    case atStart => exact ⟨0, by omega, rfl, HM9.out, Turn.refl _ _⟩
    case round =>
      obtain ⟨j, hj, rfl, HQ⟩ := hrel
      by_cases hlt : j < L.length
      · have hx := List.getElem?_eq_getElem hlt
        obtain ⟨x, hy⟩ : ∃ x, L[j] = x := ⟨_, rfl⟩
        rw [hy] at hx
        have HTk : Hid (L.take (j + 1) = L.take j ++ [x]) := (List.take_succ_eq_append_getElem hlt).trans (by rw [hy])
        have HXm : Hid (x ∈ L) := by rw [← hy]; exact List.getElem_mem _
        obtain ⟨xd, xn, xt⟩ := x
        have hO := HQ.out.2.own HO9.out (fun g hg => by simp; exact HNe.out g hg)
        have hK := HQ.out.2.blk HK9.out (by rw [List.mem_singleton]; exact HBm.out)
        obtain ⟨g, cap', e, _, _, _, _, hc⟩ := row_parts hO rfl (by omega)
        cases e
        obtain ⟨⟨q0, q1, q2⟩, _⟩ := hc j _ hx
        dsimp only at q0 q1 q2
        obtain ⟨w2, hw2⟩ : ∃ W, wr.alloc (.cells #[.int .i64 xd, .int .i64 xn, .int .i64 xt] 31) = W := ⟨_, rfl⟩
        have hb2 : Below wr.heap.size wr w2 := by rw [← hw2]; exact (Below.refl _ _).alloc (Nat.le_refl _) _
        have KX : Blk w2 wr.heap.size #[.int .i64 xd, .int .i64 xn, .int .i64 xt] 31 := by rw [← hw2]; exact Blk.new _ _ _
        have k1 : w2.cell? ⟨w5.heap.size + 1, 1, none⟩ = some (.map (some (w5.heap.size))) := below_cell hb2 (hK.cell 1 rfl)
        have x1 : w2.cell? ⟨wr.heap.size, 1, none⟩ = some (.int .i64 xn) := KX.cell 1 rfl
        have HW2 := Lib.hid hw2
        have HB2 := Lib.hid hb2
        have HWf : Hid ((Lit.int .i64 xn).wf = true) := by
          have := HNo.out _ HXm.out
          exact wf_of (by dsimp only at this; omega) (by dsimp only at this; omega)
        clear hw2 hb2 KX hO hK hc hx hy
        have i1 : (0 : Int) ≤ (j : Int) := by omega
        have i2 : (j : Int) < (L.length : Int) := by omega
        go_wp2_with fail
        rw [HW2.out]
        go_still_tail 8, hmx
        have hd2 : Below w2.heap.size w2 w2.drew := (Below.refl _ _).drew
        refine wpList_store _ rfl _ _ _ 61 rfl keyN Try.underlying61 rfl ((HQ.out.1.after HB2.out).after hd2) (.int .i64 xn) (.int .i64 (j : Int)) rfl rfl ⟨_, rfl, HWf.out⟩ ?_
        intro w3 hm3 hg3 hs3
        have hlj : (L.take j).length = j := by rw [List.length_take]; omega
        have hno : Nos (L.take j ++ [⟨xd, xn, xt⟩]) := by
          rw [← HTk.out]
          exact (HP.out.nos).sublist ((List.take_sublist _ _).map _)
        have hm4 := plcs_push (L := L.take j) (x := ⟨xd, xn, xt⟩) hno (by rw [hlj]; exact hm3)
        rw [← HTk.out] at hm4
        have HR4 : Hid (MapAt OkN w3 (w5.heap.size) (plcs (L.take (j + 1))) ∧ Turn [w5.heap.size] w9 w3) := ⟨hm4, (HQ.out.2.trans ((Turn.of_below HB2.out).trans (Turn.of_below hd2 |> fun h => (⟨h.os, h.tape, h.output, h.size, h.block⟩ : Turn _ _ _)))).trans (Turn.of_grown hg3 (by simp))⟩
        clear hd2 hm3 hg3 hs3 hlj hno hm4 k1 x1 q0 q1 q2 HW2 HB2 HQ
        go_wp2_with fail
        go_roundw
        case rel => exact ⟨j + 1, by omega, by go_num, HR4⟩
        case measure => simp [intOf]; omega
      · obtain rfl : j = L.length := by omega
        have hQ := HQ.out
        rw [List.take_length] at hQ
        have HFin : Hid (CopyEnd w S N (.returned (.pointer (some ⟨w5.heap.size + 1, 0, none⟩))) wr) := by
          refine ⟨w5.heap.size + 1, w5.heap.size, .slice a5 L.length c5, rfl, ⟨⟨L, ⟨hQ.2.blk HK9.out (by rw [List.mem_singleton]; exact HBm.out), ownsRow_down (hQ.2.own HO9.out (fun g hg => by simp; exact HNe.out g hg)) (by simp), hQ.1, (by omega), hw5⟩, HG.out, HPm.out⟩, HRa.out, HNn.out, HN0.out⟩, HB9.out.trans (hQ.2.below (HB9.out.size) (by intro b hb; rw [List.mem_singleton.1 hb]; exact hw5))⟩
        clear hQ HQ
        go_wp2_with fail
        go_ret
        exact HFin.out
  · have zw5 : w.heap.size < w5.heap.size := by have := hb5.size; simp at this; omega
    have hw5 := hB5.size
    obtain ⟨w9, hw9⟩ : ∃ W, w5.alloc (.cells #[.slice a5 L.length c5, .map (some w.heap.size), .int .i64 N] 65) = W := ⟨_, rfl⟩
    have hb59 : Below w5.heap.size w5 w9 := by rw [← hw9]; exact ((Below.refl w5.heap.size w5).alloc (Nat.le_refl _) _)
    have K9 : Blk w9 (w5.heap.size) #[.slice a5 L.length c5, .map (some (w.heap.size)), .int .i64 N] 65 := by rw [← hw9]; exact (Blk.new _ _ _)
    have M9 : MapAt OkN w9 (w.heap.size) (plcs []) := by rw [← hw9]; exact ((((MapAt.made OkN w).after (Below.refl _ _).drew).after hb5).after ((Below.refl _ _).alloc (Nat.le_refl _) _))
    have O9 := ownsRow_after ho5 hb59
    have HBm : Hid (w5.heap.size ≠ w.heap.size) := (show w5.heap.size ≠ w.heap.size by omega)
    have HB9 := Lib.hid (hB5.trans (hb59.mono hw5))
    have HK9 := Lib.hid K9
    have HM9 := Lib.hid M9
    have HO9 := Lib.hid O9
    have O9' := O9
    have M9' := M9
    have c0 : w9.cell? ⟨w5.heap.size, 0, none⟩ = some (.slice a5 L.length c5) := K9.cell 0 rfl
    rw [hw9]
    clear hw9 hb59 K9 M9 O9
    have hrow := fun g hg => (own_cells O9' (g := g) hg).2.2
    have hne : ∀ g, (Value.slice a5 L.length c5).ownBlock = some g → g ≠ w.heap.size := fun g hg e => by
      obtain ⟨cur, hc⟩ := hrow g hg
      obtain ⟨es, cc, hm, _⟩ := M9'
      rw [e] at hc
      rw [hc] at hm
      cases hm
    have HNe := Lib.hid hne
    clear hrow hne O9' M9'
    go_wp2_with fail
    go_loopw [28] (fun i wr => ∃ j : Nat, j ≤ L.length ∧ i = .int .i64 j ∧ Hid (MapAt OkN wr (w.heap.size) (plcs (L.take j)) ∧ Turn [w.heap.size] w9 wr)) (fun i _ => L.length - (intOf i).toNat)
    case atStart => exact ⟨0, by omega, rfl, HM9.out, Turn.refl _ _⟩
    case round =>
      obtain ⟨j, hj, rfl, HQ⟩ := hrel
      by_cases hlt : j < L.length
      · have hx := List.getElem?_eq_getElem hlt
        obtain ⟨x, hy⟩ : ∃ x, L[j] = x := ⟨_, rfl⟩
        rw [hy] at hx
        have HTk : Hid (L.take (j + 1) = L.take j ++ [x]) := (List.take_succ_eq_append_getElem hlt).trans (by rw [hy])
        have HXm : Hid (x ∈ L) := by rw [← hy]; exact List.getElem_mem _
        obtain ⟨xd, xn, xt⟩ := x
        have hO := HQ.out.2.own HO9.out (fun g hg => by simp; exact HNe.out g hg)
        have hK := HQ.out.2.blk HK9.out (by rw [List.mem_singleton]; exact HBm.out)
        obtain ⟨g, cap', e, _, _, _, _, hc⟩ := row_parts hO rfl (by omega)
        cases e
        obtain ⟨⟨q0, q1, q2⟩, _⟩ := hc j _ hx
        dsimp only at q0 q1 q2
        obtain ⟨w2, hw2⟩ : ∃ W, wr.alloc (.cells #[.int .i64 xd, .int .i64 xn, .int .i64 xt] 31) = W := ⟨_, rfl⟩
        have hb2 : Below wr.heap.size wr w2 := by rw [← hw2]; exact (Below.refl _ _).alloc (Nat.le_refl _) _
        have KX : Blk w2 wr.heap.size #[.int .i64 xd, .int .i64 xn, .int .i64 xt] 31 := by rw [← hw2]; exact Blk.new _ _ _
        have k1 : w2.cell? ⟨w5.heap.size, 1, none⟩ = some (.map (some (w.heap.size))) := below_cell hb2 (hK.cell 1 rfl)
        have x1 : w2.cell? ⟨wr.heap.size, 1, none⟩ = some (.int .i64 xn) := KX.cell 1 rfl
        have HW2 := Lib.hid hw2
        have HB2 := Lib.hid hb2
        have HWf : Hid ((Lit.int .i64 xn).wf = true) := by
          have := HNo.out _ HXm.out
          exact wf_of (by dsimp only at this; omega) (by dsimp only at this; omega)
        clear hw2 hb2 KX hO hK hc hx hy
        have i1 : (0 : Int) ≤ (j : Int) := by omega
        have i2 : (j : Int) < (L.length : Int) := by omega
        go_wp2_with fail
        rw [HW2.out]
        go_still_tail 8, hmx
        have hd2 : Below w2.heap.size w2 w2.drew := (Below.refl _ _).drew
        refine wpList_store _ rfl _ _ _ 61 rfl keyN Try.underlying61 rfl ((HQ.out.1.after HB2.out).after hd2) (.int .i64 xn) (.int .i64 (j : Int)) rfl rfl ⟨_, rfl, HWf.out⟩ ?_
        intro w3 hm3 hg3 hs3
        have hlj : (L.take j).length = j := by rw [List.length_take]; omega
        have hno : Nos (L.take j ++ [⟨xd, xn, xt⟩]) := by
          rw [← HTk.out]
          exact (HP.out.nos).sublist ((List.take_sublist _ _).map _)
        have hm4 := plcs_push (L := L.take j) (x := ⟨xd, xn, xt⟩) hno (by rw [hlj]; exact hm3)
        rw [← HTk.out] at hm4
        have HR4 : Hid (MapAt OkN w3 (w.heap.size) (plcs (L.take (j + 1))) ∧ Turn [w.heap.size] w9 w3) := ⟨hm4, (HQ.out.2.trans ((Turn.of_below HB2.out).trans (Turn.of_below hd2 |> fun h => (⟨h.os, h.tape, h.output, h.size, h.block⟩ : Turn _ _ _)))).trans (Turn.of_grown hg3 (by simp))⟩
        clear hd2 hm3 hg3 hs3 hlj hno hm4 k1 x1 q0 q1 q2 HW2 HB2 HQ
        go_wp2_with fail
        go_roundw
        case rel => exact ⟨j + 1, by omega, by go_num, HR4⟩
        case measure => simp [intOf]; omega
      · obtain rfl : j = L.length := by omega
        have hQ := HQ.out
        rw [List.take_length] at hQ
        have HFin : Hid (CopyEnd w S N (.returned (.pointer (some ⟨w5.heap.size, 0, none⟩))) wr) := by
          refine ⟨w5.heap.size, w.heap.size, .slice a5 L.length c5, rfl, ⟨⟨L, ⟨hQ.2.blk HK9.out (by rw [List.mem_singleton]; exact HBm.out), ownsRow_down (hQ.2.own HO9.out (fun g hg => by simp; exact HNe.out g hg)) (by simp), hQ.1, (by omega), (Nat.le_refl _)⟩, HG.out, HPm.out⟩, HRa.out, HNn.out, HN0.out⟩, HB9.out.trans (hQ.2.below (HB9.out.size) (by intro b hb; rw [List.mem_singleton.1 hb]; exact (Nat.le_refl _)))⟩
        clear hQ HQ
        go_wp2_with fail
        go_ret
        exact HFin.out
end Go.Proofs.Ytgcncnmkfpfccaa
