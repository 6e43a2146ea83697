/- Package bitemp: Encode. -/
import Derived.Test.YtkloijkfaooodaaBitCa
import Derived.Test.YtkloijkfaooodaaBitCm
import Derived.Test.YtkloijkfaooodaaHeldT
import Derived.Test.YtkloijkfaooodaaHeldIn
import Derived.Deep.AppendLies
namespace Go.Proofs.Ytkloijkfaooodaa
open Go.RowKit Go.Sort Go.Shelf
set_option linter.unusedVariables false
set_option linter.unusedSimpArgs false
attribute [local go_sem] Oper.semAt_some

theorem region_roundF {P : Program} {ops : Array Oper} {Q : Exit → Act → World → Prop} {id l n : Nat} {a : Act} {w : World} (S : World → Prop) (L : Nat) (hm : P.follows .mixedOrders = true) (hQ : ¬ LetsOut Q) (hd : noDeferB ops = true)
    (h : wpAnyF P .any ops Q S L ops.size (Array.replicate ops.size false) a w.drew) : (Code.region id ops true).wpIn (Fence.wide.inRound l) n P Q a w :=
  wpIn_region_any hm (any_round hQ hd _ _ _ _ (wpAny_of_final _ _ _ _ h))
def pairsV (v : Vs) : List (Int × Nat) := [(v.s, 8), (kindV v.c, 1), (v.k, 1), (v.d, 4), (v.n, 8), (v.m, 8), (v.p, 1)]
def bytesV (v : Vs) : List Int := numsL (pairsV v)
theorem bytesV_len (v : Vs) : (bytesV v).length = 31 := by simp [bytesV, numsL, pairsV, numB_len]
def encL (V : List Vs) : List Int := V.flatMap bytesV
theorem encL_len (V : List Vs) : (encL V).length = 31 * V.length := by
  induction V with
  | nil => rfl
  | cons v V ih => simp [encL, bytesV_len] at ih ⊢; omega
theorem encL_snoc (V : List Vs) (v : Vs) : encL (V ++ [v]) = encL V ++ bytesV v := by simp [encL]
theorem byC_one (bs : List Int) : ∀ u ∈ byC bs, u.oneCell' = true := fun u hu => by
  unfold byC at hu
  obtain ⟨x, _, rfl⟩ := List.mem_map.1 hu
  rfl
theorem byC_app (a b : List Int) : byC (a ++ b) = byC a ++ byC b := by simp [byC]
theorem byC_len (a : List Int) : (byC a).length = a.length := by simp [byC]
theorem pairs_rows {w : World} {B : Nat} {v : Vs} {T : TypeId} (h : Blk w B #[.int .i64 v.s, .int .i64 8, .int .i64 (kindV v.c), .int .i64 1, .int .i64 v.k, .int .i64 1, .int .i64 v.d, .int .i64 4, .int .i64 v.n, .int .i64 8, .int .i64 v.m, .int .i64 8, .int .i64 v.p, .int .i64 1] T) : RecsAt w (some ⟨B, 0, none⟩) 2 encQ (pairsV v) := fun hl => by
  refine ⟨B, 0, rfl, fun i hi j u hu => ?_⟩
  rw [Nat.zero_add]
  refine h.cell (i * 2 + j) ?_
  have hi7 : i < 7 := hi
  match i, hi7 with
  | 0, _ | 1, _ | 2, _ | 3, _ | 4, _ | 5, _ | 6, _ =>
    match j with
    | 0 => exact hu
    | 1 => exact hu
    | j + 2 => simp [recF, encQ, pairsV] at hu

set_option maxRecDepth 100000 in
set_option maxHeartbeats 8000000 in
theorem encode_any (pv : Value) (V : List Vs) (hl : V.length ≤ 1000) (w : World) (h : ∀ W, Below w.heap.size w W → Calls Try.prog 34 #[pv] W (SeqMEnd W V)) :
    Calls Try.prog 25 #[pv] w (RowB w w.heap.size (encL V)) := by
  obtain ⟨i0, hi, hi0, hi1, hi2⟩ := info_parts infoU8
  refine (callsIn_wide (n := 5)).1 ?_
  refine callsIn_of_wp_marks Try.func25 rfl trivial ?_ rfl
  simp only [Try.ntmps25, List.size_toArray, List.length_cons, List.length_nil, Nat.reduceAdd, Nat.reduceSub, Array.replicate_succ, Array.replicate_zero, List.push_toArray, List.append_toArray, List.nil_append, List.cons_append]
  refine wpIn_wide.2 ?_
  obtain ⟨w0, hw0⟩ : ∃ W, w.alloc (.cells #[.slice none 0 0] 52) = W := ⟨_, rfl⟩
  have hb0 : Below w.heap.size w w0 := by rw [← hw0]; exact (Below.refl _ _).alloc (Nat.le_refl _) _
  have hk0 : Boxed w0 w.heap.size 52 (.slice none 0 0) := by rw [← hw0]; exact Boxed.new _ _ _
  have z0 : w0.heap.size = w.heap.size + 1 := by rw [← hw0]; simp
  have HC := Lib.hid (h w0 hb0)
  have HW0 := Lib.hid hw0
  have HB0 := Lib.hid hb0
  have HK0 := Lib.hid hk0
  clear h hw0 hb0 hk0
  go_wp2_with fail
  rw [HW0.out]
  with_reducible refine HC.out.mono ?_
  rintro e w2 ⟨Bs, rfl, hS, hb2⟩
  have bO : Boxed w2 w.heap.size 52 (.slice none 0 0) := (hb2.block w.heap.size (by omega)).trans HK0.out
  have HS := Lib.hid hS
  have z2 := hb2.size
  have HB2 := Lib.hid (HB0.out.trans (hb2.mono HB0.out.size))
  have HBO := Lib.hid bO
  clear bO hS hb2 HK0 HC
  go_wp2_with fail
  refine wpIn_wide (n := 5) |>.1 ?_
  refine wpIn_range_box rfl (by omega) (gf := 56) (lb := #[.pointer (some ⟨Bs, 0, none⟩)]) rfl trivial (enters_of Try.func56 (by kernel_rfl) rfl)
    (valM_stops _ (by omega) w0.heap.size w2.heap.size Bs V (by omega) w2 HS.out (Nat.le_refl _)) Mid.trans (mid_b (Nat.le_refl _)) (Below.refl _ _) (fun _ => rfl)
    (fun (pre : List Vs) W => (∃ v, Boxed W w.heap.size 52 v ∧ W.ownsRow w2.heap.size 5 1 v (encL pre).length (byC (encL pre)) ∧ True) ∧ (Below w.heap.size w2 W ∧ w2.heap.size ≤ W.heap.size))
    (fun _ _ _ => False)
    (OwnFrom.and (Own.from (holdsRow_own w2.heap.size w.heap.size 52 5 1 (fun (pre : List Vs) => (encL pre).length) (fun (pre : List Vs) => byC (encL pre)) (fun pre v => True)) _) (ownFrom_below (by omega) (by omega) |>.and (fun s X Y row hs hg hr => Nat.le_trans hs hg.size)))
    (fun _ _ _ _ _ hs _ _ => hs)
    ⟨⟨_, HBO.out, World.ownsRow_nil _ _ _ _, trivial⟩, Below.refl _ _, Nat.le_refl _⟩
    26 encS 4 w2.heap.size (fun pre W h => h.2.2) (fun pre W o h => Mid.of_below ((Below.refl _ _).alloc (by have := h.2.2; omega) _))
    ?assign ?body ?done ?stop
  case assign =>
    intro l pre x W K hI hK
    have hK' := Lib.hid hK
    clear hK hI
    obtain ⟨xs, xc, xk, xd, xn, xm, xp⟩ := x
    dsimp only [encVV, encS] at hK' ⊢
    gi_wp2_with fail
    simpa [boxAct, encS] using hK'.out
  case body =>
    rintro l pre x Bx W hl' ⟨r, hr⟩ ⟨⟨v, hv, hrow, _⟩, hB, hz⟩ hBx hX hlt
    obtain ⟨va, vn, vc, rfl⟩ : ∃ va vn vc, v = .slice va vn vc := by
      obtain ⟨a', c', e, _⟩ := owned_parts hrow
      exact ⟨_, _, _, e⟩
    have hf := hv.frozen
    obtain ⟨xs, xc, xk, xd, xn, xm, xp⟩ := x
    dsimp only [encS] at hX
    have x1 : W.cell? ⟨Bx, 1, none⟩ = some (.bool xc) := hX.cell 1 rfl
    simp only [boxAct]
    cases xc with
    | true =>
      have c0 : W.cell? ⟨w.heap.size, 0, none⟩ = some (.slice va vn vc) := hv.cell
      gi_wp2_with fail
      have bd : Below W.heap.size W W.drew := (Below.refl _ _).drew
      have HSS : Hid (∀ W', Below W.heap.size W W' → W'.cell? ⟨w.heap.size, 0, none⟩ = some (.slice va vn vc) ∧ W'.cell? ⟨Bx, 0, none⟩ = some (.int .i64 xs) ∧ W'.cell? ⟨Bx, 2, none⟩ = some (.int .i64 xk) ∧ W'.cell? ⟨Bx, 3, none⟩ = some (.int .i64 xd) ∧ W'.cell? ⟨Bx, 4, none⟩ = some (.int .i64 xn) ∧ W'.cell? ⟨Bx, 5, none⟩ = some (.int .i64 xm) ∧ W'.cell? ⟨Bx, 6, none⟩ = some (.int .i64 xp)) := fun W' hW' => ⟨below_cell hW' hv.cell, below_cell hW' (hX.cell 0 rfl), below_cell hW' (hX.cell 2 rfl), below_cell hW' (hX.cell 3 rfl), below_cell hW' (hX.cell 4 rfl), below_cell hW' (hX.cell 5 rfl), below_cell hW' (hX.cell 6 rfl)⟩
      refine region_roundF (fun W => W.cell? ⟨w.heap.size, 0, none⟩ = some (.slice va vn vc) ∧ W.cell? ⟨Bx, 0, none⟩ = some (.int .i64 xs) ∧ W.cell? ⟨Bx, 2, none⟩ = some (.int .i64 xk) ∧ W.cell? ⟨Bx, 3, none⟩ = some (.int .i64 xd) ∧ W.cell? ⟨Bx, 4, none⟩ = some (.int .i64 xn) ∧ W.cell? ⟨Bx, 5, none⟩ = some (.int .i64 xm) ∧ W.cell? ⟨Bx, 6, none⟩ = some (.int .i64 xp)) 26 (by kernel_rfl) (fun ⟨_, _, h⟩ => h) (by rfl) ?_
      have hSd := HSS.out _ bd
      obtain ⟨wd, hwd⟩ : ∃ X, W.drew = X := ⟨_, rfl⟩
      rw [hwd] at bd hSd ⊢
      clear hwd
      refine fT_take (i := 0) (v := ?_) rfl (by kernel_rfl) (fun _ _ _ h => h) (by rfl) hSd ?_ ?_
      rotate_left 1
      · intro wS hSw
        obtain ⟨p0, p1, p2, p3, p4, p5, p6⟩ := hSw
        go_simp
        try with_reducible rfl
      try simp only [Act.put, List.setIfInBounds_toArray, List.set_cons_zero, List.set_cons_succ]
      refine fT_take (i := 1) (v := ?_) rfl (by kernel_rfl) (fun _ _ _ h => h) (by rfl) hSd ?_ ?_
      rotate_left 1
      · intro wS hSw
        obtain ⟨p0, p1, p2, p3, p4, p5, p6⟩ := hSw
        go_simp
        try with_reducible rfl
      try simp only [Act.put, List.setIfInBounds_toArray, List.set_cons_zero, List.set_cons_succ]
      refine fT_take (i := 2) (v := ?_) rfl (by kernel_rfl) (fun _ _ _ h => h) (by rfl) hSd ?_ ?_
      rotate_left 1
      · intro wS hSw
        obtain ⟨p0, p1, p2, p3, p4, p5, p6⟩ := hSw
        go_simp
        try with_reducible rfl
      try simp only [Act.put, List.setIfInBounds_toArray, List.set_cons_zero, List.set_cons_succ]
      refine fT_take (i := 3) (v := ?_) rfl (by kernel_rfl) (fun _ _ _ h => h) (by rfl) hSd ?_ ?_
      rotate_left 1
      · intro wS hSw
        obtain ⟨p0, p1, p2, p3, p4, p5, p6⟩ := hSw
        go_simp
        try with_reducible rfl
      try simp only [Act.put, List.setIfInBounds_toArray, List.set_cons_zero, List.set_cons_succ]
      refine fT_take (i := 4) (v := ?_) rfl (by kernel_rfl) (fun _ _ _ h => h) (by rfl) hSd ?_ ?_
      rotate_left 1
      · intro wS hSw
        obtain ⟨p0, p1, p2, p3, p4, p5, p6⟩ := hSw
        go_simp
        try with_reducible rfl
      try simp only [Act.put, List.setIfInBounds_toArray, List.set_cons_zero, List.set_cons_succ]
      refine fT_take (i := 5) (v := ?_) rfl (by kernel_rfl) (fun _ _ _ h => h) (by rfl) hSd ?_ ?_
      rotate_left 1
      · intro wS hSw
        obtain ⟨p0, p1, p2, p3, p4, p5, p6⟩ := hSw
        go_simp
        try with_reducible rfl
      try simp only [Act.put, List.setIfInBounds_toArray, List.set_cons_zero, List.set_cons_succ]
      refine fT_take (i := 6) (v := ?_) rfl (by kernel_rfl) (fun _ _ _ h => h) (by rfl) hSd ?_ ?_
      rotate_left 1
      · intro wS hSw
        obtain ⟨p0, p1, p2, p3, p4, p5, p6⟩ := hSw
        go_simp
        try with_reducible rfl
      try simp only [Act.put, List.setIfInBounds_toArray, List.set_cons_zero, List.set_cons_succ]
      refine fT_take (i := 7) (v := ?_) rfl (by kernel_rfl) (fun _ _ _ h => h) (by rfl) hSd ?_ ?_
      rotate_left 1
      · intro wS hSw
        obtain ⟨p0, p1, p2, p3, p4, p5, p6⟩ := hSw
        go_simp
        try with_reducible rfl
      try simp only [Act.put, List.setIfInBounds_toArray, List.set_cons_zero, List.set_cons_succ]
      refine fT_take (i := 8) (v := ?_) rfl (by kernel_rfl) (fun _ _ _ h => h) (by rfl) hSd ?_ ?_
      rotate_left 1
      · intro wS hSw
        obtain ⟨p0, p1, p2, p3, p4, p5, p6⟩ := hSw
        go_simp
        try with_reducible rfl
      try simp only [Act.put, List.setIfInBounds_toArray, List.set_cons_zero, List.set_cons_succ]
      refine fT_take (i := 9) (v := ?_) rfl (by kernel_rfl) (fun _ _ _ h => h) (by rfl) hSd ?_ ?_
      rotate_left 1
      · intro wS hSw
        obtain ⟨p0, p1, p2, p3, p4, p5, p6⟩ := hSw
        go_simp
        try with_reducible rfl
      try simp only [Act.put, List.setIfInBounds_toArray, List.set_cons_zero, List.set_cons_succ]
      refine fT_take (i := 10) (v := ?_) rfl (by kernel_rfl) (fun _ _ _ h => h) (by rfl) hSd ?_ ?_
      rotate_left 1
      · intro wS hSw
        obtain ⟨p0, p1, p2, p3, p4, p5, p6⟩ := hSw
        go_simp
        try with_reducible rfl
      try simp only [Act.put, List.setIfInBounds_toArray, List.set_cons_zero, List.set_cons_succ]
      refine fT_take (i := 11) (v := ?_) rfl (by kernel_rfl) (fun _ _ _ h => h) (by rfl) hSd ?_ ?_
      rotate_left 1
      · intro wS hSw
        obtain ⟨p0, p1, p2, p3, p4, p5, p6⟩ := hSw
        go_simp
        try with_reducible rfl
      try simp only [Act.put, List.setIfInBounds_toArray, List.set_cons_zero, List.set_cons_succ]
      refine fT_take (i := 12) (v := ?_) rfl (by kernel_rfl) (fun _ _ _ h => h) (by rfl) hSd ?_ ?_
      rotate_left 1
      · intro wS hSw
        obtain ⟨p0, p1, p2, p3, p4, p5, p6⟩ := hSw
        go_simp
        try with_reducible rfl
      try simp only [Act.put, List.setIfInBounds_toArray, List.set_cons_zero, List.set_cons_succ]
      refine fT_take (i := 13) (v := ?_) rfl (by kernel_rfl) (fun _ _ _ h => h) (by rfl) hSd ?_ ?_
      rotate_left 1
      · intro wS hSw
        obtain ⟨p0, p1, p2, p3, p4, p5, p6⟩ := hSw
        go_simp
        try with_reducible rfl
      try simp only [Act.put, List.setIfInBounds_toArray, List.set_cons_zero, List.set_cons_succ]
      refine fT_take (i := 14) (v := ?_) rfl (by kernel_rfl) (fun _ _ _ h => h) (by rfl) hSd ?_ ?_
      rotate_left 1
      · intro wS hSw
        obtain ⟨p0, p1, p2, p3, p4, p5, p6⟩ := hSw
        go_simp
        try with_reducible rfl
      try simp only [Act.put, List.setIfInBounds_toArray, List.set_cons_zero, List.set_cons_succ]
      refine fT_take (i := 15) (v := ?_) rfl (by kernel_rfl) (fun _ _ _ h => h) (by rfl) hSd ?_ ?_
      rotate_left 1
      · intro wS hSw
        obtain ⟨p0, p1, p2, p3, p4, p5, p6⟩ := hSw
        go_simp
        try with_reducible rfl
      try simp only [Act.put, List.setIfInBounds_toArray, List.set_cons_zero, List.set_cons_succ]
      refine fT_take (i := 16) (v := ?_) rfl (by kernel_rfl) (fun _ _ _ h => h) (by rfl) hSd ?_ ?_
      rotate_left 1
      · intro wS hSw
        obtain ⟨p0, p1, p2, p3, p4, p5, p6⟩ := hSw
        go_simp
        try with_reducible rfl
      try simp only [Act.put, List.setIfInBounds_toArray, List.set_cons_zero, List.set_cons_succ]
      refine fT_take (i := 17) (v := ?_) rfl (by kernel_rfl) (fun _ _ _ h => h) (by rfl) hSd ?_ ?_
      rotate_left 1
      · intro wS hSw
        obtain ⟨p0, p1, p2, p3, p4, p5, p6⟩ := hSw
        go_simp
        try with_reducible rfl
      try simp only [Act.put, List.setIfInBounds_toArray, List.set_cons_zero, List.set_cons_succ]
      refine fT_take (i := 18) (v := ?_) rfl (by kernel_rfl) (fun _ _ _ h => h) (by rfl) hSd ?_ ?_
      rotate_left 1
      · intro wS hSw
        obtain ⟨p0, p1, p2, p3, p4, p5, p6⟩ := hSw
        go_simp
        try with_reducible rfl
      try simp only [Act.put, List.setIfInBounds_toArray, List.set_cons_zero, List.set_cons_succ]
      refine fT_take (i := 19) (v := ?_) rfl (by kernel_rfl) (fun _ _ _ h => h) (by rfl) hSd ?_ ?_
      rotate_left 1
      · intro wS hSw
        obtain ⟨p0, p1, p2, p3, p4, p5, p6⟩ := hSw
        go_simp
        try with_reducible rfl
      try simp only [Act.put, List.setIfInBounds_toArray, List.set_cons_zero, List.set_cons_succ]
      refine fT_take (i := 20) (v := ?_) rfl (by kernel_rfl) (fun _ _ _ h => h) (by rfl) hSd ?_ ?_
      rotate_left 1
      · intro wS hSw
        obtain ⟨p0, p1, p2, p3, p4, p5, p6⟩ := hSw
        go_simp
        try with_reducible rfl
      try simp only [Act.put, List.setIfInBounds_toArray, List.set_cons_zero, List.set_cons_succ]
      refine fT_take (i := 21) (v := ?_) rfl (by kernel_rfl) (fun _ _ _ h => h) (by rfl) hSd ?_ ?_
      rotate_left 1
      · intro wS hSw
        obtain ⟨p0, p1, p2, p3, p4, p5, p6⟩ := hSw
        go_simp
        try with_reducible rfl
      try simp only [Act.put, List.setIfInBounds_toArray, List.set_cons_zero, List.set_cons_succ]
      refine fT_take (i := 22) (v := ?_) rfl (by kernel_rfl) (fun _ _ _ h => h) (by rfl) hSd ?_ ?_
      rotate_left 1
      · intro wS hSw
        obtain ⟨p0, p1, p2, p3, p4, p5, p6⟩ := hSw
        go_simp
        try with_reducible rfl
      try simp only [Act.put, List.setIfInBounds_toArray, List.set_cons_zero, List.set_cons_succ]
      have bA : Below W.heap.size W (wd.alloc (.cells #[.int .i64 xs, .int .i64 8, .int .i64 1, .int .i64 1, .int .i64 xk, .int .i64 1, .int .i64 xd, .int .i64 4, .int .i64 xn, .int .i64 8, .int .i64 xm, .int .i64 8, .int .i64 xp, .int .i64 1] 107)) := bd.trans ((Below.refl _ _).alloc bd.size _)
      have hkA : Blk (wd.alloc (.cells #[.int .i64 xs, .int .i64 8, .int .i64 1, .int .i64 1, .int .i64 xk, .int .i64 1, .int .i64 xd, .int .i64 4, .int .i64 xn, .int .i64 8, .int .i64 xm, .int .i64 8, .int .i64 xp, .int .i64 1] 107)) wd.heap.size #[.int .i64 xs, .int .i64 8, .int .i64 1, .int .i64 1, .int .i64 xk, .int .i64 1, .int .i64 xd, .int .i64 4, .int .i64 xn, .int .i64 8, .int .i64 xm, .int .i64 8, .int .i64 xp, .int .i64 1] 107 := Blk.new _ _ _
      refine wpAnyF_next (i := 23) rfl (by kernel_rfl) (fun K hK => ?_)
      go_simp
      refine hK.out _ _ (.inr (HSS.out _ bA)) ?_
      clear hK K
      try simp only [Act.put, List.setIfInBounds_toArray, List.set_cons_zero, List.set_cons_succ]
      obtain ⟨wA, hwA⟩ : ∃ X, wd.alloc (.cells #[.int .i64 xs, .int .i64 8, .int .i64 1, .int .i64 1, .int .i64 xk, .int .i64 1, .int .i64 xd, .int .i64 4, .int .i64 xn, .int .i64 8, .int .i64 xm, .int .i64 8, .int .i64 xp, .int .i64 1] 107) = X := ⟨_, rfl⟩
      rw [hwA] at bA hkA ⊢
      clear hwA
      have hnum : Calls Try.prog 47 #[.slice (some ⟨wd.heap.size, 0, none⟩) 7 7] wA (RowB wA wA.heap.size (bytesV ⟨xs, true, xk, xd, xn, xm, xp⟩)) := numbers_ok (some ⟨wd.heap.size, 0, none⟩) 7 (pairsV ⟨xs, true, xk, xd, xn, xm, xp⟩) (by simp [pairsV]) (by simp [pairsV]) wA (pairs_rows (v := ⟨xs, true, xk, xd, xn, xm, xp⟩) hkA)
      refine wpAnyF_next (i := 24) rfl (by kernel_rfl) (fun K hK => ?_)
      go_simp
      with_reducible refine hnum.mono ?_
      rintro e wN ⟨nv, rfl, hown, hbN⟩
      have bN := bA.trans (hbN.mono bA.size)
      refine hK.out _ _ (.inr (HSS.out _ bN)) ?_
      clear hK K
      try simp only [Act.put, List.setIfInBounds_toArray, List.set_cons_zero, List.set_cons_succ]
      rw [bytesV_len] at hown
      obtain ⟨na, nc, rfl, _, _, _, _, h4⟩ := owned_parts hown
      obtain ⟨nb, no, rfl, hnc⟩ := h4 (by omega)
      have hnews : ∀ j u, (byC (bytesV ⟨xs, true, xk, xd, xn, xm, xp⟩))[j]? = some u → wN.cell? ((⟨nb, no, none⟩ : Addr).add j) = some u := fun j u hu => by
        have hj := (List.getElem?_eq_some_iff.1 hu).1
        rw [byC_len, bytesV_len] at hj
        have h2 := hnc j (by omega)
        dsimp only at h2
        rw [List.getD_eq_getElem?_getD, hu] at h2
        rw [add_plain]
        exact h2
      have hcA : wN.ownsRow w2.heap.size 5 1 (.slice va vn vc) (encL pre).length (byC (encL pre)) := own_after hrow bN
      have hNl : (encL pre).length ≤ 31000 := by rw [encL_len]; omega
      have zN := bN.size
      refine wpAnyF_next (i := 25) rfl (by kernel_rfl) (fun K hK => ?_)
      refine step_append_lies _ (by rfl) _ _ _ (by rfl) w2.heap.size 5 i0 _ 1 1 Try.underlying52 hi hi0 hi1 hi2 rfl (by omega) _ (encL pre).length _ (by rfl) hcA ⟨nb, no, none⟩ 31 nc (byC (bytesV ⟨xs, true, xk, xd, xn, xm, xp⟩)) (by rfl) (by rw [byC_len, bytesV_len]) hnews (byC_one _) (by omega) (by unfold maxLen; omega) (by omega) (by omega) _ rfl ?_
      intro g c3 wG hownG hgrow hat hgt
      have hvN : Blk wN w.heap.size #[.slice va vn vc] 52 := (bN.block w.heap.size (by omega)).trans hv
      have hvG : Blk wG w.heap.size #[.slice va vn vc] 52 := hvN.grown hgrow (hvN.own_ne hcA (by decide))
      have hXN := hX.after bN
      have hXG := hXN.grown hgrow (hXN.own_ne hcA (by decide))
      have m0 : wG.cell? ⟨w.heap.size, 0, none⟩ = some (.slice va vn vc) := hvG.cell 0 rfl
      have mf := hvG.free 0
      have hSG : wG.cell? ⟨w.heap.size, 0, none⟩ = some (.slice va vn vc) ∧ wG.cell? ⟨Bx, 0, none⟩ = some (.int .i64 xs) ∧ wG.cell? ⟨Bx, 2, none⟩ = some (.int .i64 xk) ∧ wG.cell? ⟨Bx, 3, none⟩ = some (.int .i64 xd) ∧ wG.cell? ⟨Bx, 4, none⟩ = some (.int .i64 xn) ∧ wG.cell? ⟨Bx, 5, none⟩ = some (.int .i64 xm) ∧ wG.cell? ⟨Bx, 6, none⟩ = some (.int .i64 xp) := ⟨m0, hXG.cell 0 rfl, hXG.cell 2 rfl, hXG.cell 3 rfl, hXG.cell 4 rfl, hXG.cell 5 rfl, hXG.cell 6 rfl⟩
      have hkeep : KeepsFrom w2.heap.size W (wG.setCell ⟨w.heap.size, 0, none⟩ (.slice (some ⟨g, 0, none⟩) ((encL pre).length + 31) c3)) := (keeps_below bN _).trans (((KeepsOthers.of_grownBy hgrow (fun j o e ho => by
        obtain ⟨_, _, cur, hc⟩ := own_cells hcA e
        rw [hc] at ho
        cases ho
        rfl)).trans (KeepsOthers.setCell _ _ _)).from _)
      have hmid : Mid w0.heap.size w2.heap.size W (wG.setCell ⟨w.heap.size, 0, none⟩ (.slice (some ⟨g, 0, none⟩) ((encL pre).length + 31) c3)) := (Mid.of_below (bN.mono hz)).trans (Mid.trans ⟨fun k h1 h2 => hgrow.block k (by omega) (fun e => by have := (own_cells hcA e.symm).1; omega), hgrow.size⟩ (Mid.of_turn (Turn.of_grown (grown_setCell wG w.heap.size 0 _) (List.mem_singleton.2 rfl)) (by have := hgrow.size; omega) (fun b hb => by rw [List.mem_singleton.1 hb]; omega)))
      have hbox : Boxed (wG.setCell ⟨w.heap.size, 0, none⟩ (.slice (some ⟨g, 0, none⟩) ((encL pre).length + 31) c3)) w.heap.size 52 (.slice (some ⟨g, 0, none⟩) ((encL pre).length + 31) c3) := hvG.set 0 _
      have hrowZ : (wG.setCell ⟨w.heap.size, 0, none⟩ (.slice (some ⟨g, 0, none⟩) ((encL pre).length + 31) c3)).ownsRow w2.heap.size 5 1 (.slice (some ⟨g, 0, none⟩) ((encL pre).length + 31) c3) (encL (pre ++ [⟨xs, true, xk, xd, xn, xm, xp⟩])).length (byC (encL (pre ++ [⟨xs, true, xk, xd, xn, xm, xp⟩]))) := by
        have h1 := hownG.kept (grown_setCell wG w.heap.size 0 (.slice (some ⟨g, 0, none⟩) ((encL pre).length + 31) c3)) (Or.inr (by have := hvG.own_ne hownG (by decide); simpa using this))
        rw [encL_snoc, List.length_append, bytesV_len, byC_app]
        exact h1
      have hbelZ : Below w.heap.size w2 (wG.setCell ⟨w.heap.size, 0, none⟩ (.slice (some ⟨g, 0, none⟩) ((encL pre).length + 31) c3)) := below_setCells (((hB.trans (bN.mono (by omega)))).grown hgrow (by omega) (fun q e => by have := (own_cells hcA e).1; omega)) (Nat.le_refl _) 0 _
      have HFin := Lib.hid (show KeepsFrom w2.heap.size W _ ∧ Mid w0.heap.size w2.heap.size W _ ∧ (∃ v, Boxed (wG.setCell ⟨w.heap.size, 0, none⟩ (.slice (some ⟨g, 0, none⟩) ((encL pre).length + 31) c3)) w.heap.size 52 v ∧ (wG.setCell ⟨w.heap.size, 0, none⟩ (.slice (some ⟨g, 0, none⟩) ((encL pre).length + 31) c3)).ownsRow w2.heap.size 5 1 v (encL (pre ++ [⟨xs, true, xk, xd, xn, xm, xp⟩])).length (byC (encL (pre ++ [⟨xs, true, xk, xd, xn, xm, xp⟩]))) ∧ True) ∧ (Below w.heap.size w2 (wG.setCell ⟨w.heap.size, 0, none⟩ (.slice (some ⟨g, 0, none⟩) ((encL pre).length + 31) c3)) ∧ w2.heap.size ≤ (wG.setCell ⟨w.heap.size, 0, none⟩ (.slice (some ⟨g, 0, none⟩) ((encL pre).length + 31) c3)).heap.size) from ⟨hkeep, hmid, ⟨_, hbox, hrowZ, trivial⟩, hbelZ, by have := hgrow.size; simp; omega⟩)
      clear hkeep hmid hbox hrowZ hbelZ hvN hXN hXG hcA hnews hownG hat hgt hgrow
      refine hK.out _ _ (.inr hSG) ?_
      clear hK K
      try simp only [Act.put, List.setIfInBounds_toArray, List.set_cons_zero, List.set_cons_succ]
      refine wpAnyF_next (i := 26) rfl (by kernel_rfl) (fun K hK => ?_)
      go_simp
      refine hK.out _ _ (.inl rfl) ?_
      clear hK K
      try simp only [Act.put, List.setIfInBounds_toArray, List.set_cons_zero, List.set_cons_succ]
      refine wpAnyF_done (by kernel_rfl) ?_ _
      exact HFin.out
    | false =>
      have c0 : W.cell? ⟨w.heap.size, 0, none⟩ = some (.slice va vn vc) := hv.cell
      gi_wp2_with fail
      have bd : Below W.heap.size W W.drew := (Below.refl _ _).drew
      have HSS : Hid (∀ W', Below W.heap.size W W' → W'.cell? ⟨w.heap.size, 0, none⟩ = some (.slice va vn vc) ∧ W'.cell? ⟨Bx, 0, none⟩ = some (.int .i64 xs) ∧ W'.cell? ⟨Bx, 2, none⟩ = some (.int .i64 xk) ∧ W'.cell? ⟨Bx, 3, none⟩ = some (.int .i64 xd) ∧ W'.cell? ⟨Bx, 4, none⟩ = some (.int .i64 xn) ∧ W'.cell? ⟨Bx, 5, none⟩ = some (.int .i64 xm) ∧ W'.cell? ⟨Bx, 6, none⟩ = some (.int .i64 xp)) := fun W' hW' => ⟨below_cell hW' hv.cell, below_cell hW' (hX.cell 0 rfl), below_cell hW' (hX.cell 2 rfl), below_cell hW' (hX.cell 3 rfl), below_cell hW' (hX.cell 4 rfl), below_cell hW' (hX.cell 5 rfl), below_cell hW' (hX.cell 6 rfl)⟩
      refine region_roundF (fun W => W.cell? ⟨w.heap.size, 0, none⟩ = some (.slice va vn vc) ∧ W.cell? ⟨Bx, 0, none⟩ = some (.int .i64 xs) ∧ W.cell? ⟨Bx, 2, none⟩ = some (.int .i64 xk) ∧ W.cell? ⟨Bx, 3, none⟩ = some (.int .i64 xd) ∧ W.cell? ⟨Bx, 4, none⟩ = some (.int .i64 xn) ∧ W.cell? ⟨Bx, 5, none⟩ = some (.int .i64 xm) ∧ W.cell? ⟨Bx, 6, none⟩ = some (.int .i64 xp)) 26 (by kernel_rfl) (fun ⟨_, _, h⟩ => h) (by rfl) ?_
      have hSd := HSS.out _ bd
      obtain ⟨wd, hwd⟩ : ∃ X, W.drew = X := ⟨_, rfl⟩
      rw [hwd] at bd hSd ⊢
      clear hwd
      refine fT_take (i := 0) (v := ?_) rfl (by kernel_rfl) (fun _ _ _ h => h) (by rfl) hSd ?_ ?_
      rotate_left 1
      · intro wS hSw
        obtain ⟨p0, p1, p2, p3, p4, p5, p6⟩ := hSw
        go_simp
        try with_reducible rfl
      try simp only [Act.put, List.setIfInBounds_toArray, List.set_cons_zero, List.set_cons_succ]
      refine fT_take (i := 1) (v := ?_) rfl (by kernel_rfl) (fun _ _ _ h => h) (by rfl) hSd ?_ ?_
      rotate_left 1
      · intro wS hSw
        obtain ⟨p0, p1, p2, p3, p4, p5, p6⟩ := hSw
        go_simp
        try with_reducible rfl
      try simp only [Act.put, List.setIfInBounds_toArray, List.set_cons_zero, List.set_cons_succ]
      refine fT_take (i := 2) (v := ?_) rfl (by kernel_rfl) (fun _ _ _ h => h) (by rfl) hSd ?_ ?_
      rotate_left 1
      · intro wS hSw
        obtain ⟨p0, p1, p2, p3, p4, p5, p6⟩ := hSw
        go_simp
        try with_reducible rfl
      try simp only [Act.put, List.setIfInBounds_toArray, List.set_cons_zero, List.set_cons_succ]
      refine fT_take (i := 3) (v := ?_) rfl (by kernel_rfl) (fun _ _ _ h => h) (by rfl) hSd ?_ ?_
      rotate_left 1
      · intro wS hSw
        obtain ⟨p0, p1, p2, p3, p4, p5, p6⟩ := hSw
        go_simp
        try with_reducible rfl
      try simp only [Act.put, List.setIfInBounds_toArray, List.set_cons_zero, List.set_cons_succ]
      refine fT_take (i := 4) (v := ?_) rfl (by kernel_rfl) (fun _ _ _ h => h) (by rfl) hSd ?_ ?_
      rotate_left 1
      · intro wS hSw
        obtain ⟨p0, p1, p2, p3, p4, p5, p6⟩ := hSw
        go_simp
        try with_reducible rfl
      try simp only [Act.put, List.setIfInBounds_toArray, List.set_cons_zero, List.set_cons_succ]
      refine fT_take (i := 5) (v := ?_) rfl (by kernel_rfl) (fun _ _ _ h => h) (by rfl) hSd ?_ ?_
      rotate_left 1
      · intro wS hSw
        obtain ⟨p0, p1, p2, p3, p4, p5, p6⟩ := hSw
        go_simp
        try with_reducible rfl
      try simp only [Act.put, List.setIfInBounds_toArray, List.set_cons_zero, List.set_cons_succ]
      refine fT_take (i := 6) (v := ?_) rfl (by kernel_rfl) (fun _ _ _ h => h) (by rfl) hSd ?_ ?_
      rotate_left 1
      · intro wS hSw
        obtain ⟨p0, p1, p2, p3, p4, p5, p6⟩ := hSw
        go_simp
        try with_reducible rfl
      try simp only [Act.put, List.setIfInBounds_toArray, List.set_cons_zero, List.set_cons_succ]
      refine fT_take (i := 7) (v := ?_) rfl (by kernel_rfl) (fun _ _ _ h => h) (by rfl) hSd ?_ ?_
      rotate_left 1
      · intro wS hSw
        obtain ⟨p0, p1, p2, p3, p4, p5, p6⟩ := hSw
        go_simp
        try with_reducible rfl
      try simp only [Act.put, List.setIfInBounds_toArray, List.set_cons_zero, List.set_cons_succ]
      refine fT_take (i := 8) (v := ?_) rfl (by kernel_rfl) (fun _ _ _ h => h) (by rfl) hSd ?_ ?_
      rotate_left 1
      · intro wS hSw
        obtain ⟨p0, p1, p2, p3, p4, p5, p6⟩ := hSw
        go_simp
        try with_reducible rfl
      try simp only [Act.put, List.setIfInBounds_toArray, List.set_cons_zero, List.set_cons_succ]
      refine fT_take (i := 9) (v := ?_) rfl (by kernel_rfl) (fun _ _ _ h => h) (by rfl) hSd ?_ ?_
      rotate_left 1
      · intro wS hSw
        obtain ⟨p0, p1, p2, p3, p4, p5, p6⟩ := hSw
        go_simp
        try with_reducible rfl
      try simp only [Act.put, List.setIfInBounds_toArray, List.set_cons_zero, List.set_cons_succ]
      refine fT_take (i := 10) (v := ?_) rfl (by kernel_rfl) (fun _ _ _ h => h) (by rfl) hSd ?_ ?_
      rotate_left 1
      · intro wS hSw
        obtain ⟨p0, p1, p2, p3, p4, p5, p6⟩ := hSw
        go_simp
        try with_reducible rfl
      try simp only [Act.put, List.setIfInBounds_toArray, List.set_cons_zero, List.set_cons_succ]
      refine fT_take (i := 11) (v := ?_) rfl (by kernel_rfl) (fun _ _ _ h => h) (by rfl) hSd ?_ ?_
      rotate_left 1
      · intro wS hSw
        obtain ⟨p0, p1, p2, p3, p4, p5, p6⟩ := hSw
        go_simp
        try with_reducible rfl
      try simp only [Act.put, List.setIfInBounds_toArray, List.set_cons_zero, List.set_cons_succ]
      refine fT_take (i := 12) (v := ?_) rfl (by kernel_rfl) (fun _ _ _ h => h) (by rfl) hSd ?_ ?_
      rotate_left 1
      · intro wS hSw
        obtain ⟨p0, p1, p2, p3, p4, p5, p6⟩ := hSw
        go_simp
        try with_reducible rfl
      try simp only [Act.put, List.setIfInBounds_toArray, List.set_cons_zero, List.set_cons_succ]
      refine fT_take (i := 13) (v := ?_) rfl (by kernel_rfl) (fun _ _ _ h => h) (by rfl) hSd ?_ ?_
      rotate_left 1
      · intro wS hSw
        obtain ⟨p0, p1, p2, p3, p4, p5, p6⟩ := hSw
        go_simp
        try with_reducible rfl
      try simp only [Act.put, List.setIfInBounds_toArray, List.set_cons_zero, List.set_cons_succ]
      refine fT_take (i := 14) (v := ?_) rfl (by kernel_rfl) (fun _ _ _ h => h) (by rfl) hSd ?_ ?_
      rotate_left 1
      · intro wS hSw
        obtain ⟨p0, p1, p2, p3, p4, p5, p6⟩ := hSw
        go_simp
        try with_reducible rfl
      try simp only [Act.put, List.setIfInBounds_toArray, List.set_cons_zero, List.set_cons_succ]
      refine fT_take (i := 15) (v := ?_) rfl (by kernel_rfl) (fun _ _ _ h => h) (by rfl) hSd ?_ ?_
      rotate_left 1
      · intro wS hSw
        obtain ⟨p0, p1, p2, p3, p4, p5, p6⟩ := hSw
        go_simp
        try with_reducible rfl
      try simp only [Act.put, List.setIfInBounds_toArray, List.set_cons_zero, List.set_cons_succ]
      refine fT_take (i := 16) (v := ?_) rfl (by kernel_rfl) (fun _ _ _ h => h) (by rfl) hSd ?_ ?_
      rotate_left 1
      · intro wS hSw
        obtain ⟨p0, p1, p2, p3, p4, p5, p6⟩ := hSw
        go_simp
        try with_reducible rfl
      try simp only [Act.put, List.setIfInBounds_toArray, List.set_cons_zero, List.set_cons_succ]
      refine fT_take (i := 17) (v := ?_) rfl (by kernel_rfl) (fun _ _ _ h => h) (by rfl) hSd ?_ ?_
      rotate_left 1
      · intro wS hSw
        obtain ⟨p0, p1, p2, p3, p4, p5, p6⟩ := hSw
        go_simp
        try with_reducible rfl
      try simp only [Act.put, List.setIfInBounds_toArray, List.set_cons_zero, List.set_cons_succ]
      refine fT_take (i := 18) (v := ?_) rfl (by kernel_rfl) (fun _ _ _ h => h) (by rfl) hSd ?_ ?_
      rotate_left 1
      · intro wS hSw
        obtain ⟨p0, p1, p2, p3, p4, p5, p6⟩ := hSw
        go_simp
        try with_reducible rfl
      try simp only [Act.put, List.setIfInBounds_toArray, List.set_cons_zero, List.set_cons_succ]
      refine fT_take (i := 19) (v := ?_) rfl (by kernel_rfl) (fun _ _ _ h => h) (by rfl) hSd ?_ ?_
      rotate_left 1
      · intro wS hSw
        obtain ⟨p0, p1, p2, p3, p4, p5, p6⟩ := hSw
        go_simp
        try with_reducible rfl
      try simp only [Act.put, List.setIfInBounds_toArray, List.set_cons_zero, List.set_cons_succ]
      refine fT_take (i := 20) (v := ?_) rfl (by kernel_rfl) (fun _ _ _ h => h) (by rfl) hSd ?_ ?_
      rotate_left 1
      · intro wS hSw
        obtain ⟨p0, p1, p2, p3, p4, p5, p6⟩ := hSw
        go_simp
        try with_reducible rfl
      try simp only [Act.put, List.setIfInBounds_toArray, List.set_cons_zero, List.set_cons_succ]
      refine fT_take (i := 21) (v := ?_) rfl (by kernel_rfl) (fun _ _ _ h => h) (by rfl) hSd ?_ ?_
      rotate_left 1
      · intro wS hSw
        obtain ⟨p0, p1, p2, p3, p4, p5, p6⟩ := hSw
        go_simp
        try with_reducible rfl
      try simp only [Act.put, List.setIfInBounds_toArray, List.set_cons_zero, List.set_cons_succ]
      refine fT_take (i := 22) (v := ?_) rfl (by kernel_rfl) (fun _ _ _ h => h) (by rfl) hSd ?_ ?_
      rotate_left 1
      · intro wS hSw
        obtain ⟨p0, p1, p2, p3, p4, p5, p6⟩ := hSw
        go_simp
        try with_reducible rfl
      try simp only [Act.put, List.setIfInBounds_toArray, List.set_cons_zero, List.set_cons_succ]
      have bA : Below W.heap.size W (wd.alloc (.cells #[.int .i64 xs, .int .i64 8, .int .i64 0, .int .i64 1, .int .i64 xk, .int .i64 1, .int .i64 xd, .int .i64 4, .int .i64 xn, .int .i64 8, .int .i64 xm, .int .i64 8, .int .i64 xp, .int .i64 1] 107)) := bd.trans ((Below.refl _ _).alloc bd.size _)
      have hkA : Blk (wd.alloc (.cells #[.int .i64 xs, .int .i64 8, .int .i64 0, .int .i64 1, .int .i64 xk, .int .i64 1, .int .i64 xd, .int .i64 4, .int .i64 xn, .int .i64 8, .int .i64 xm, .int .i64 8, .int .i64 xp, .int .i64 1] 107)) wd.heap.size #[.int .i64 xs, .int .i64 8, .int .i64 0, .int .i64 1, .int .i64 xk, .int .i64 1, .int .i64 xd, .int .i64 4, .int .i64 xn, .int .i64 8, .int .i64 xm, .int .i64 8, .int .i64 xp, .int .i64 1] 107 := Blk.new _ _ _
      refine wpAnyF_next (i := 23) rfl (by kernel_rfl) (fun K hK => ?_)
      go_simp
      refine hK.out _ _ (.inr (HSS.out _ bA)) ?_
      clear hK K
      try simp only [Act.put, List.setIfInBounds_toArray, List.set_cons_zero, List.set_cons_succ]
      obtain ⟨wA, hwA⟩ : ∃ X, wd.alloc (.cells #[.int .i64 xs, .int .i64 8, .int .i64 0, .int .i64 1, .int .i64 xk, .int .i64 1, .int .i64 xd, .int .i64 4, .int .i64 xn, .int .i64 8, .int .i64 xm, .int .i64 8, .int .i64 xp, .int .i64 1] 107) = X := ⟨_, rfl⟩
      rw [hwA] at bA hkA ⊢
      clear hwA
      have hnum : Calls Try.prog 47 #[.slice (some ⟨wd.heap.size, 0, none⟩) 7 7] wA (RowB wA wA.heap.size (bytesV ⟨xs, false, xk, xd, xn, xm, xp⟩)) := numbers_ok (some ⟨wd.heap.size, 0, none⟩) 7 (pairsV ⟨xs, false, xk, xd, xn, xm, xp⟩) (by simp [pairsV]) (by simp [pairsV]) wA (pairs_rows (v := ⟨xs, false, xk, xd, xn, xm, xp⟩) hkA)
      refine wpAnyF_next (i := 24) rfl (by kernel_rfl) (fun K hK => ?_)
      go_simp
      with_reducible refine hnum.mono ?_
      rintro e wN ⟨nv, rfl, hown, hbN⟩
      have bN := bA.trans (hbN.mono bA.size)
      refine hK.out _ _ (.inr (HSS.out _ bN)) ?_
      clear hK K
      try simp only [Act.put, List.setIfInBounds_toArray, List.set_cons_zero, List.set_cons_succ]
      rw [bytesV_len] at hown
      obtain ⟨na, nc, rfl, _, _, _, _, h4⟩ := owned_parts hown
      obtain ⟨nb, no, rfl, hnc⟩ := h4 (by omega)
      have hnews : ∀ j u, (byC (bytesV ⟨xs, false, xk, xd, xn, xm, xp⟩))[j]? = some u → wN.cell? ((⟨nb, no, none⟩ : Addr).add j) = some u := fun j u hu => by
        have hj := (List.getElem?_eq_some_iff.1 hu).1
        rw [byC_len, bytesV_len] at hj
        have h2 := hnc j (by omega)
        dsimp only at h2
        rw [List.getD_eq_getElem?_getD, hu] at h2
        rw [add_plain]
        exact h2
      have hcA : wN.ownsRow w2.heap.size 5 1 (.slice va vn vc) (encL pre).length (byC (encL pre)) := own_after hrow bN
      have hNl : (encL pre).length ≤ 31000 := by rw [encL_len]; omega
      have zN := bN.size
      refine wpAnyF_next (i := 25) rfl (by kernel_rfl) (fun K hK => ?_)
      refine step_append_lies _ (by rfl) _ _ _ (by rfl) w2.heap.size 5 i0 _ 1 1 Try.underlying52 hi hi0 hi1 hi2 rfl (by omega) _ (encL pre).length _ (by rfl) hcA ⟨nb, no, none⟩ 31 nc (byC (bytesV ⟨xs, false, xk, xd, xn, xm, xp⟩)) (by rfl) (by rw [byC_len, bytesV_len]) hnews (byC_one _) (by omega) (by unfold maxLen; omega) (by omega) (by omega) _ rfl ?_
      intro g c3 wG hownG hgrow hat hgt
      have hvN : Blk wN w.heap.size #[.slice va vn vc] 52 := (bN.block w.heap.size (by omega)).trans hv
      have hvG : Blk wG w.heap.size #[.slice va vn vc] 52 := hvN.grown hgrow (hvN.own_ne hcA (by decide))
      have hXN := hX.after bN
      have hXG := hXN.grown hgrow (hXN.own_ne hcA (by decide))
      have m0 : wG.cell? ⟨w.heap.size, 0, none⟩ = some (.slice va vn vc) := hvG.cell 0 rfl
      have mf := hvG.free 0
      have hSG : wG.cell? ⟨w.heap.size, 0, none⟩ = some (.slice va vn vc) ∧ wG.cell? ⟨Bx, 0, none⟩ = some (.int .i64 xs) ∧ wG.cell? ⟨Bx, 2, none⟩ = some (.int .i64 xk) ∧ wG.cell? ⟨Bx, 3, none⟩ = some (.int .i64 xd) ∧ wG.cell? ⟨Bx, 4, none⟩ = some (.int .i64 xn) ∧ wG.cell? ⟨Bx, 5, none⟩ = some (.int .i64 xm) ∧ wG.cell? ⟨Bx, 6, none⟩ = some (.int .i64 xp) := ⟨m0, hXG.cell 0 rfl, hXG.cell 2 rfl, hXG.cell 3 rfl, hXG.cell 4 rfl, hXG.cell 5 rfl, hXG.cell 6 rfl⟩
      have hkeep : KeepsFrom w2.heap.size W (wG.setCell ⟨w.heap.size, 0, none⟩ (.slice (some ⟨g, 0, none⟩) ((encL pre).length + 31) c3)) := (keeps_below bN _).trans (((KeepsOthers.of_grownBy hgrow (fun j o e ho => by
        obtain ⟨_, _, cur, hc⟩ := own_cells hcA e
        rw [hc] at ho
        cases ho
        rfl)).trans (KeepsOthers.setCell _ _ _)).from _)
      have hmid : Mid w0.heap.size w2.heap.size W (wG.setCell ⟨w.heap.size, 0, none⟩ (.slice (some ⟨g, 0, none⟩) ((encL pre).length + 31) c3)) := (Mid.of_below (bN.mono hz)).trans (Mid.trans ⟨fun k h1 h2 => hgrow.block k (by omega) (fun e => by have := (own_cells hcA e.symm).1; omega), hgrow.size⟩ (Mid.of_turn (Turn.of_grown (grown_setCell wG w.heap.size 0 _) (List.mem_singleton.2 rfl)) (by have := hgrow.size; omega) (fun b hb => by rw [List.mem_singleton.1 hb]; omega)))
      have hbox : Boxed (wG.setCell ⟨w.heap.size, 0, none⟩ (.slice (some ⟨g, 0, none⟩) ((encL pre).length + 31) c3)) w.heap.size 52 (.slice (some ⟨g, 0, none⟩) ((encL pre).length + 31) c3) := hvG.set 0 _
      have hrowZ : (wG.setCell ⟨w.heap.size, 0, none⟩ (.slice (some ⟨g, 0, none⟩) ((encL pre).length + 31) c3)).ownsRow w2.heap.size 5 1 (.slice (some ⟨g, 0, none⟩) ((encL pre).length + 31) c3) (encL (pre ++ [⟨xs, false, xk, xd, xn, xm, xp⟩])).length (byC (encL (pre ++ [⟨xs, false, xk, xd, xn, xm, xp⟩]))) := by
        have h1 := hownG.kept (grown_setCell wG w.heap.size 0 (.slice (some ⟨g, 0, none⟩) ((encL pre).length + 31) c3)) (Or.inr (by have := hvG.own_ne hownG (by decide); simpa using this))
        rw [encL_snoc, List.length_append, bytesV_len, byC_app]
        exact h1
      have hbelZ : Below w.heap.size w2 (wG.setCell ⟨w.heap.size, 0, none⟩ (.slice (some ⟨g, 0, none⟩) ((encL pre).length + 31) c3)) := below_setCells (((hB.trans (bN.mono (by omega)))).grown hgrow (by omega) (fun q e => by have := (own_cells hcA e).1; omega)) (Nat.le_refl _) 0 _
      have HFin := Lib.hid (show KeepsFrom w2.heap.size W _ ∧ Mid w0.heap.size w2.heap.size W _ ∧ (∃ v, Boxed (wG.setCell ⟨w.heap.size, 0, none⟩ (.slice (some ⟨g, 0, none⟩) ((encL pre).length + 31) c3)) w.heap.size 52 v ∧ (wG.setCell ⟨w.heap.size, 0, none⟩ (.slice (some ⟨g, 0, none⟩) ((encL pre).length + 31) c3)).ownsRow w2.heap.size 5 1 v (encL (pre ++ [⟨xs, false, xk, xd, xn, xm, xp⟩])).length (byC (encL (pre ++ [⟨xs, false, xk, xd, xn, xm, xp⟩]))) ∧ True) ∧ (Below w.heap.size w2 (wG.setCell ⟨w.heap.size, 0, none⟩ (.slice (some ⟨g, 0, none⟩) ((encL pre).length + 31) c3)) ∧ w2.heap.size ≤ (wG.setCell ⟨w.heap.size, 0, none⟩ (.slice (some ⟨g, 0, none⟩) ((encL pre).length + 31) c3)).heap.size) from ⟨hkeep, hmid, ⟨_, hbox, hrowZ, trivial⟩, hbelZ, by have := hgrow.size; simp; omega⟩)
      clear hkeep hmid hbox hrowZ hbelZ hvN hXN hXG hcA hnews hownG hat hgt hgrow
      refine hK.out _ _ (.inr hSG) ?_
      clear hK K
      try simp only [Act.put, List.setIfInBounds_toArray, List.set_cons_zero, List.set_cons_succ]
      refine wpAnyF_next (i := 26) rfl (by kernel_rfl) (fun K hK => ?_)
      go_simp
      refine hK.out _ _ (.inl rfl) ?_
      clear hK K
      try simp only [Act.put, List.setIfInBounds_toArray, List.set_cons_zero, List.set_cons_succ]
      refine wpAnyF_done (by kernel_rfl) ?_ _
      exact HFin.out
  case done =>
    rintro D ys W hD rfl ⟨⟨v, hv, hrow, _⟩, hB, hz⟩ hK
    have hc := hv.cell
    have HR := Lib.hid (ownsRow_putObj hrow (.deferred none) hK rfl)
    have HBd := Lib.hid hB
    go_wp2_with fail
    refine ⟨by simp, .inl ⟨_, _, rfl, run_takeDeferred hK, ?_⟩⟩
    exact ⟨_, results_tmp rfl _ _ _, _, rfl, own_down HR.out (by omega), (HB2.out.trans HBd.out).trans (belowK_b (w := w) (Nat.le_refl _) _ D _ _ (by omega) hK rfl rfl)⟩
  case stop =>
    rintro D c pre W _ _ h _
    exact h.elim

end Go.Proofs.Ytkloijkfaooodaa
