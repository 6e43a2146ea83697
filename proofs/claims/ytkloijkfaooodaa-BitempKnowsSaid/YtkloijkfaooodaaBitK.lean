/- The law's calls. -/
import Derived.Test.YtkloijkfaooodaaBitI
namespace Go.Proofs.Ytkloijkfaooodaa
open Go.RowKit Go.Shelf
set_option linter.unusedVariables false
set_option linter.unusedSimpArgs false


set_option maxHeartbeats 8000000 in
set_option maxRecDepth 100000 in
theorem calls_ok (base p bm : Nat) (sv : Value) (V : List Vs) (v : Vs) (hn : I64 v.n) (hm : I64 v.m) (w : World) (hbase : base ≤ w.heap.size) (h : StAt w base p bm sv V) (hl : V.length ≤ 2513169434900) :
    Calls Try.prog 12 #[.pointer (some ⟨p, 0, none⟩), .agg (encS v).toArray] w (CallEnd w base p bm sv V v) := by
  have H := Lib.hid h
  obtain ⟨xs, xc, xk, xd, xn, xm, xp⟩ := v
  dsimp only [encS]
  dsimp only at hn hm
  obtain ⟨w0, hw0⟩ : ∃ w0, (w.alloc (.cells #[.int .i64 xs, .bool xc, .int .i64 xk, .int .i64 xd, .int .i64 xn, .int .i64 xm, .int .i64 xp] 26)).alloc (.cells #[.int .i64 0, .bool false, .int .i64 0, .int .i64 0, .int .i64 0, .int .i64 0, .int .i64 0] 26) = w0 := ⟨_, rfl⟩
  have hb0 : Below w.heap.size w w0 := by rw [← hw0]; exact ((Below.refl _ _).alloc (Nat.le_refl _) _).alloc (by simp) _
  have z0 : w0.heap.size = w.heap.size + 2 := by rw [← hw0]; simp
  have KX : Blk w0 w.heap.size #[.int .i64 xs, .bool xc, .int .i64 xk, .int .i64 xd, .int .i64 xn, .int .i64 xm, .int .i64 xp] 26 := by rw [← hw0]; exact (Blk.new _ _ _).alloc _
  have KR : Hid (Blk w0 (w.heap.size + 1) #[.int .i64 0, .bool false, .int .i64 0, .int .i64 0, .int .i64 0, .int .i64 0, .int .i64 0] 26) := by
    rw [← hw0]
    have := Blk.new (w.alloc (.cells #[.int .i64 xs, .bool xc, .int .i64 xk, .int .i64 xd, .int .i64 xn, .int .i64 xm, .int .i64 xp] 26)) #[.int .i64 0, .bool false, .int .i64 0, .int .i64 0, .int .i64 0, .int .i64 0, .int .i64 0] 26
    rw [World.size_alloc] at this
    exact this
  have x0 : w0.cell? ⟨w.heap.size, 0, none⟩ = some (.int .i64 xs) := KX.cell 0 rfl
  have x1 : w0.cell? ⟨w.heap.size, 1, none⟩ = some (.bool xc) := KX.cell 1 rfl
  have x2 : w0.cell? ⟨w.heap.size, 2, none⟩ = some (.int .i64 xk) := KX.cell 2 rfl
  have x3 : w0.cell? ⟨w.heap.size, 3, none⟩ = some (.int .i64 xd) := KX.cell 3 rfl
  have x4 : w0.cell? ⟨w.heap.size, 4, none⟩ = some (.int .i64 xn) := KX.cell 4 rfl
  have x5 : w0.cell? ⟨w.heap.size, 5, none⟩ = some (.int .i64 xm) := KX.cell 5 rfl
  have x6 : w0.cell? ⟨w.heap.size, 6, none⟩ = some (.int .i64 xp) := KX.cell 6 rfl
  have HB0 := Lib.hid hb0
  have H0 := Lib.hid (h.after hb0)
  have HW0 := Lib.hid hw0
  have zlt : p < w.heap.size := h.lt.1
  have zlm : bm < w.heap.size := h.lt.2
  rw [← hw0] at x0 x1 x2 x3 x4 x5 x6
  clear hw0 hb0 h KX
  go_enter Try.func12, Try.ntmps12
  cases xc with
  | true =>
    have hp : ∀ W, StAt W base p bm sv V → Calls Try.prog 37 #[.pointer (some ⟨p, 0, none⟩), .int .i64 xs, .agg #[.int .i64 xk, .int .i64 xd, .int .i64 xp]] W (CallEnd W base p bm sv V ⟨xs, true, xk, xd, xn, xm, xp⟩) := fun W hW => bchoose_ok base p bm sv V xs xk xd xp trivial W (by have := hW.hp; have := hW.lt.1; omega) hW hl
    go_wp2_with fail
    rw [HW0.out]
    with_reducible refine (hp _ H0.out).mono ?_
    rintro e w1 ⟨sv2, rfl, hst, ht, hown⟩
    have HTW := Lib.hid (Turn.then_below (Turn.refl (StAt.bs p bm sv) w) HB0.out |>.trans ht)
    have K1 := Lib.hid (ht.blk KR.out (fun hb => by have := H.out.bs_lt _ hb; omega))
    have HST := Lib.hid hst
    have HOW := Lib.hid hown
    have z1 := ht.size
    unfold callV3
    obtain ⟨⟨os, oc, ok, od, on, om, op⟩, ho⟩ : ∃ o, (callO V ⟨xs, true, xk, xd, xn, xm, xp⟩).getD default = o := ⟨_, rfl⟩
    obtain ⟨is, his⟩ : ∃ is, (callO V ⟨xs, true, xk, xd, xn, xm, xp⟩).isSome = is := ⟨_, rfl⟩
    obtain ⟨F, hF⟩ : ∃ F, callE V ⟨xs, true, xk, xd, xn, xm, xp⟩ = F := ⟨_, rfl⟩
    rw [ho, his, hF]
    have HO := Lib.hid ho
    have HI := Lib.hid his
    have HF := Lib.hid hF
    dsimp only [encS]
    have b0 : w1.cell? ⟨(w.heap.size + 1), 0, none⟩ = some (.int .i64 0) := (K1.out).cell 0 rfl
    have b1 : w1.cell? ⟨(w.heap.size + 1), 1, none⟩ = some (.bool false) := (K1.out).cell 1 rfl
    have b2 : w1.cell? ⟨(w.heap.size + 1), 2, none⟩ = some (.int .i64 0) := (K1.out).cell 2 rfl
    have b3 : w1.cell? ⟨(w.heap.size + 1), 3, none⟩ = some (.int .i64 0) := (K1.out).cell 3 rfl
    have b4 : w1.cell? ⟨(w.heap.size + 1), 4, none⟩ = some (.int .i64 0) := (K1.out).cell 4 rfl
    have b5 : w1.cell? ⟨(w.heap.size + 1), 5, none⟩ = some (.int .i64 0) := (K1.out).cell 5 rfl
    have b6 : w1.cell? ⟨(w.heap.size + 1), 6, none⟩ = some (.int .i64 0) := (K1.out).cell 6 rfl
    have f0 := (K1.out).free 0
    have f1 := (K1.out).free 1
    have f2 := (K1.out).free 2
    have f3 := (K1.out).free 3
    have f4 := (K1.out).free 4
    have f5 := (K1.out).free 5
    have f6 := (K1.out).free 6
    clear hst ht hown ho his hF hp HW0 x0 x1 x2 x3 x4 x5 x6
    go_wp2_with fail
    clear b0 b1 b2 b3 b4 b5 b6 f0 f1 f2 f3 f4 f5 f6
    obtain ⟨w2, hw2⟩ : ∃ W, put7 w1 (w.heap.size + 1) ⟨os, oc, ok, od, on, om, op⟩ = W := ⟨_, rfl⟩
    have hK : Blk w2 (w.heap.size + 1) #[.int .i64 os, .bool oc, .int .i64 ok, .int .i64 od, .int .i64 on, .int .i64 om, .int .i64 op] 26 := by rw [← hw2]; exact set7 K1.out _ _ _ _ _ _ _
    have ht : Turn [w.heap.size + 1] w1 w2 := by rw [← hw2]; exact put7_turn _ _ _
    have hb : Below w.heap.size w1 w2 := ht.below (by omega) (by simp)
    simp only [put7] at hw2
    rw [hw2]
    clear hw2
    have e0 : w2.cell? ⟨w.heap.size + 1, 0, none⟩ = some (.int .i64 os) := (hK).cell 0 rfl
    have e1 : w2.cell? ⟨w.heap.size + 1, 1, none⟩ = some (.bool oc) := (hK).cell 1 rfl
    have e2 : w2.cell? ⟨w.heap.size + 1, 2, none⟩ = some (.int .i64 ok) := (hK).cell 2 rfl
    have e3 : w2.cell? ⟨w.heap.size + 1, 3, none⟩ = some (.int .i64 od) := (hK).cell 3 rfl
    have e4 : w2.cell? ⟨w.heap.size + 1, 4, none⟩ = some (.int .i64 on) := (hK).cell 4 rfl
    have e5 : w2.cell? ⟨w.heap.size + 1, 5, none⟩ = some (.int .i64 om) := (hK).cell 5 rfl
    have e6 : w2.cell? ⟨w.heap.size + 1, 6, none⟩ = some (.int .i64 op) := (hK).cell 6 rfl
    refine bodyPost_ret (v := .tuple #[.agg #[.int .i64 os, .bool oc, .int .i64 ok, .int .i64 od, .int .i64 on, .int .i64 om, .int .i64 op], .bool is, .int .i64 F]) (by simp [results, Try.results12, go_sem, e0, e1, e2, e3, e4, e5, e6]) rfl ?_
    refine ⟨sv2, ?_, HST.out.turn ht (by simp; omega) (by simp; omega) (fun x e hx => ?_) (fun b hb cur hc => ?_), HTW.out.then_below hb, fun x e => (HOW.out x e).imp id (by omega)⟩
    · unfold callV3
      rw [HO.out, HI.out, HF.out]
      rfl
    · obtain rfl := List.mem_singleton.1 hx
      rcases HOW.out _ e with h | h
      · have := H.out.bs_lt _ (show w.heap.size + 1 ∈ StAt.bs p bm sv by unfold StAt.bs; rw [h]; simp)
        omega
      · omega
    · obtain rfl := List.mem_singleton.1 hb
      have h2 : w1.heap[w.heap.size + 1]? = _ := K1.out
      rw [h2] at hc
      simp at hc
  | false =>
    have hp : ∀ W, StAt W base p bm sv V → Calls Try.prog 36 #[.pointer (some ⟨p, 0, none⟩), .int .i64 xs, .agg #[.int .i64 xk, .int .i64 xd, .int .i64 xn, .int .i64 xm]] W (CallEnd W base p bm sv V ⟨xs, false, xk, xd, xn, xm, xp⟩) := fun W hW => bfix_ok base p bm sv V xs xk xd xn xm hn hm W (by have := hW.hp; have := hW.lt.1; omega) hW hl
    go_wp2_with fail
    rw [HW0.out]
    with_reducible refine (hp _ H0.out).mono ?_
    rintro e w1 ⟨sv2, rfl, hst, ht, hown⟩
    have HTW := Lib.hid (Turn.then_below (Turn.refl (StAt.bs p bm sv) w) HB0.out |>.trans ht)
    have K1 := Lib.hid (ht.blk KR.out (fun hb => by have := H.out.bs_lt _ hb; omega))
    have HST := Lib.hid hst
    have HOW := Lib.hid hown
    have z1 := ht.size
    unfold callV3
    obtain ⟨⟨os, oc, ok, od, on, om, op⟩, ho⟩ : ∃ o, (callO V ⟨xs, false, xk, xd, xn, xm, xp⟩).getD default = o := ⟨_, rfl⟩
    obtain ⟨is, his⟩ : ∃ is, (callO V ⟨xs, false, xk, xd, xn, xm, xp⟩).isSome = is := ⟨_, rfl⟩
    obtain ⟨F, hF⟩ : ∃ F, callE V ⟨xs, false, xk, xd, xn, xm, xp⟩ = F := ⟨_, rfl⟩
    rw [ho, his, hF]
    have HO := Lib.hid ho
    have HI := Lib.hid his
    have HF := Lib.hid hF
    dsimp only [encS]
    have b0 : w1.cell? ⟨(w.heap.size + 1), 0, none⟩ = some (.int .i64 0) := (K1.out).cell 0 rfl
    have b1 : w1.cell? ⟨(w.heap.size + 1), 1, none⟩ = some (.bool false) := (K1.out).cell 1 rfl
    have b2 : w1.cell? ⟨(w.heap.size + 1), 2, none⟩ = some (.int .i64 0) := (K1.out).cell 2 rfl
    have b3 : w1.cell? ⟨(w.heap.size + 1), 3, none⟩ = some (.int .i64 0) := (K1.out).cell 3 rfl
    have b4 : w1.cell? ⟨(w.heap.size + 1), 4, none⟩ = some (.int .i64 0) := (K1.out).cell 4 rfl
    have b5 : w1.cell? ⟨(w.heap.size + 1), 5, none⟩ = some (.int .i64 0) := (K1.out).cell 5 rfl
    have b6 : w1.cell? ⟨(w.heap.size + 1), 6, none⟩ = some (.int .i64 0) := (K1.out).cell 6 rfl
    have f0 := (K1.out).free 0
    have f1 := (K1.out).free 1
    have f2 := (K1.out).free 2
    have f3 := (K1.out).free 3
    have f4 := (K1.out).free 4
    have f5 := (K1.out).free 5
    have f6 := (K1.out).free 6
    clear hst ht hown ho his hF hp HW0 x0 x1 x2 x3 x4 x5 x6
    go_wp2_with fail
    clear b0 b1 b2 b3 b4 b5 b6 f0 f1 f2 f3 f4 f5 f6
    obtain ⟨w2, hw2⟩ : ∃ W, put7 w1 (w.heap.size + 1) ⟨os, oc, ok, od, on, om, op⟩ = W := ⟨_, rfl⟩
    have hK : Blk w2 (w.heap.size + 1) #[.int .i64 os, .bool oc, .int .i64 ok, .int .i64 od, .int .i64 on, .int .i64 om, .int .i64 op] 26 := by rw [← hw2]; exact set7 K1.out _ _ _ _ _ _ _
    have ht : Turn [w.heap.size + 1] w1 w2 := by rw [← hw2]; exact put7_turn _ _ _
    have hb : Below w.heap.size w1 w2 := ht.below (by omega) (by simp)
    simp only [put7] at hw2
    rw [hw2]
    clear hw2
    have e0 : w2.cell? ⟨w.heap.size + 1, 0, none⟩ = some (.int .i64 os) := (hK).cell 0 rfl
    have e1 : w2.cell? ⟨w.heap.size + 1, 1, none⟩ = some (.bool oc) := (hK).cell 1 rfl
    have e2 : w2.cell? ⟨w.heap.size + 1, 2, none⟩ = some (.int .i64 ok) := (hK).cell 2 rfl
    have e3 : w2.cell? ⟨w.heap.size + 1, 3, none⟩ = some (.int .i64 od) := (hK).cell 3 rfl
    have e4 : w2.cell? ⟨w.heap.size + 1, 4, none⟩ = some (.int .i64 on) := (hK).cell 4 rfl
    have e5 : w2.cell? ⟨w.heap.size + 1, 5, none⟩ = some (.int .i64 om) := (hK).cell 5 rfl
    have e6 : w2.cell? ⟨w.heap.size + 1, 6, none⟩ = some (.int .i64 op) := (hK).cell 6 rfl
    refine bodyPost_ret (v := .tuple #[.agg #[.int .i64 os, .bool oc, .int .i64 ok, .int .i64 od, .int .i64 on, .int .i64 om, .int .i64 op], .bool is, .int .i64 F]) (by simp [results, Try.results12, go_sem, e0, e1, e2, e3, e4, e5, e6]) rfl ?_
    refine ⟨sv2, ?_, HST.out.turn ht (by simp; omega) (by simp; omega) (fun x e hx => ?_) (fun b hb cur hc => ?_), HTW.out.then_below hb, fun x e => (HOW.out x e).imp id (by omega)⟩
    · unfold callV3
      rw [HO.out, HI.out, HF.out]
      rfl
    · obtain rfl := List.mem_singleton.1 hx
      rcases HOW.out _ e with h | h
      · have := H.out.bs_lt _ (show w.heap.size + 1 ∈ StAt.bs p bm sv by unfold StAt.bs; rw [h]; simp)
        omega
      · omega
    · obtain rfl := List.mem_singleton.1 hb
      have h2 : w1.heap[w.heap.size + 1]? = _ := K1.out
      rw [h2] at hc
      simp at hc

end Go.Proofs.Ytkloijkfaooodaa
