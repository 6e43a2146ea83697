/- The document's agenda: Put, Move. -/
import Derived.Test.YtgcncnmkfpfccaaAgRc
import Derived.Test.YtgcncnmkfpfccaaHeldT
import Derived.Test.YtgcncnmkfpfccaaHeldG
namespace Go.Proofs.Ytgcncnmkfpfccaa
open Go.RowKit Go.Sort Go.Shelf
set_option linter.unusedVariables false
set_option linter.unusedSimpArgs false

def RPutEnd (w : World) (R : Nat) (a : Option Addr) (S : List It) (N d t : Int) (e : Ending) (w' : World) : Prop :=
  (dayB d = true → e = .returned (.tuple #[.int .i64 N, .int .i64 0]) ∧ RgEnd w R a (putK It.ky S ⟨d, N, t⟩) (N + 1) w') ∧ (dayB d = false → e = .returned (.tuple #[.int .i64 0, .int .i64 18]) ∧ w' = w)
theorem dayB_true {d : Int} (h : dayB d = true) : decide (d < 0) = false ∧ decide (73048 < d) = false := by
  simp only [dayB, Bool.and_eq_true, decide_eq_true_eq] at h
  exact ⟨decide_eq_false (by omega), decide_eq_false (by omega)⟩
theorem dayB_false {d : Int} (h : dayB d = false) : decide (d < 0) = true ∨ (decide (d < 0) = false ∧ decide (73048 < d) = true) := by
  simp only [dayB, Bool.and_eq_false_iff, decide_eq_false_iff_not] at h
  by_cases h0 : d < 0
  · exact .inl (decide_eq_true h0)
  · exact .inr ⟨decide_eq_false h0, decide_eq_true (by omega)⟩
set_option maxHeartbeats 4000000 in
set_option maxRecDepth 100000 in
theorem rput_ok (R : Nat) (a : Option Addr) (cap : Nat) (S : List It) (N d t : Int) (w : World) (h : RgAt w R a cap S N) (hl : S.length ≤ 1000) (hN0 : 0 ≤ N) (hN : N ≤ 900000) (hno : ∀ z ∈ S, z.n < N) :
    Calls Try.prog 12 #[.pointer (some ⟨R, 0, none⟩), .int .i64 d, .int .i64 t] w (RPutEnd w R a S N d t) := by
  cases hd : dayB d with
  | false =>
    have HF : Hid (RPutEnd w R a S N d t (.returned (.tuple #[.int .i64 0, .int .i64 18])) w) := ⟨fun e => (by rw [hd] at e; cases e), fun _ => ⟨rfl, rfl⟩⟩
    rcases dayB_false hd with h1 | ⟨h1, h2⟩
    · clear h hd
      go_enter Try.func12, Try.ntmps12
      go_wp2_with fail
      go_ret2
      exact HF.out
    · clear h hd
      go_enter Try.func12, Try.ntmps12
      go_wp2_with fail
      go_ret2
      exact HF.out
  | true =>
    obtain ⟨h1, h2⟩ := dayB_true hd
    have H := Lib.hid h
    have HC : Hid (∀ W, Below w.heap.size w W → Calls Try.prog 26 #[.slice a S.length cap, .agg #[.int .i64 d, .int .i64 N, .int .i64 t]] W (InEnd W (putK It.ky S ⟨d, N, t⟩))) := fun W hW => in_ok a cap S ⟨d, N, t⟩ W (H.out.after hW).sl hl (fun z hz e => by have := hno z hz; simp [It.ky] at e; omega)
    have HS : Hid (∀ w' : World, Below w.heap.size w w' → w'.cell? ⟨R, 0, none⟩ = some (.slice a S.length cap) ∧ w'.cell? ⟨R, 1, none⟩ = some (.int .i64 N) ∧ w'.frozen? ⟨R, 0, none⟩ = false) := fun w' hW => ⟨(H.out.after hW).blk.cell 0 rfl, (H.out.after hW).blk.cell 1 rfl, (H.out.after hW).blk.free 0⟩
    have HD := Lib.hid hd
    have hRl : R < w.heap.size := h.blk.lt
    clear h hd hno
    go_enter Try.func12, Try.ntmps12
    go_wp2_with fail
    refine wp_region_final (fun w' => w'.cell? ⟨R, 0, none⟩ = some (.slice a S.length cap) ∧ w'.cell? ⟨R, 1, none⟩ = some (.int .i64 N)) 15 (by kernel_rfl) ?_
    have bd : Below w.heap.size w w.drew := (Below.refl _ _).drew
    obtain ⟨wq, hwq⟩ : ∃ W, w.drew = W := ⟨_, rfl⟩
    rw [hwq] at bd ⊢
    clear hwq
    have hSd : wq.cell? ⟨R, 0, none⟩ = some (.slice a S.length cap) ∧ wq.cell? ⟨R, 1, none⟩ = some (.int .i64 N) := ⟨(HS.out _ bd).1, (HS.out _ bd).2.1⟩
    refine fT_take (i := 0) (v := ?_) rfl (by kernel_rfl) (fun _ _ _ h => h) (by rfl) hSd ?_ ?_
    rotate_left 1
    · intro wS hSw
      obtain ⟨s1, s2⟩ := hSw
      go_simp
      try with_reducible rfl
    try simp only [Act.put, List.setIfInBounds_toArray, List.set_cons_zero, List.set_cons_succ]
    refine fT_take (i := 1) (v := ?_) rfl (by kernel_rfl) (fun _ _ _ h => h) (by rfl) hSd ?_ ?_
    rotate_left 1
    · intro wS hSw
      obtain ⟨s1, s2⟩ := hSw
      go_simp
      try with_reducible rfl
    try simp only [Act.put, List.setIfInBounds_toArray, List.set_cons_zero, List.set_cons_succ]
    refine fT_take (i := 2) (v := ?_) rfl (by kernel_rfl) (fun _ _ _ h => h) (by rfl) hSd ?_ ?_
    rotate_left 1
    · intro wS hSw
      obtain ⟨s1, s2⟩ := hSw
      go_simp
      try with_reducible rfl
    try simp only [Act.put, List.setIfInBounds_toArray, List.set_cons_zero, List.set_cons_succ]
    refine fT_take (i := 3) (v := ?_) rfl (by kernel_rfl) (fun _ _ _ h => h) (by rfl) hSd ?_ ?_
    rotate_left 1
    · intro wS hSw
      obtain ⟨s1, s2⟩ := hSw
      go_simp
      try with_reducible rfl
    try simp only [Act.put, List.setIfInBounds_toArray, List.set_cons_zero, List.set_cons_succ]
    refine fT_take (i := 4) (v := ?_) rfl (by kernel_rfl) (fun _ _ _ h => h) (by rfl) hSd ?_ ?_
    rotate_left 1
    · intro wS hSw
      obtain ⟨s1, s2⟩ := hSw
      go_simp
      try with_reducible rfl
    try simp only [Act.put, List.setIfInBounds_toArray, List.set_cons_zero, List.set_cons_succ]
    refine fT_take (i := 5) (v := ?_) rfl (by kernel_rfl) (fun _ _ _ h => h) (by rfl) hSd ?_ ?_
    rotate_left 1
    · intro wS hSw
      obtain ⟨s1, s2⟩ := hSw
      go_simp
      try with_reducible rfl
    try simp only [Act.put, List.setIfInBounds_toArray, List.set_cons_zero, List.set_cons_succ]
    refine fT_take (i := 6) (v := ?_) rfl (by kernel_rfl) (fun _ _ _ h => h) (by rfl) hSd ?_ ?_
    rotate_left 1
    · intro wS hSw
      obtain ⟨s1, s2⟩ := hSw
      go_simp
      try with_reducible rfl
    try simp only [Act.put, List.setIfInBounds_toArray, List.set_cons_zero, List.set_cons_succ]
    refine fT_take (i := 7) (v := ?_) rfl (by kernel_rfl) (fun _ _ _ h => h) (by rfl) hSd ?_ ?_
    rotate_left 1
    · intro wS hSw
      obtain ⟨s1, s2⟩ := hSw
      go_simp
      try with_reducible rfl
    try simp only [Act.put, List.setIfInBounds_toArray, List.set_cons_zero, List.set_cons_succ]
    refine fT_take (i := 8) (v := ?_) rfl (by kernel_rfl) (fun _ _ _ h => h) (by rfl) hSd ?_ ?_
    rotate_left 1
    · intro wS hSw
      obtain ⟨s1, s2⟩ := hSw
      go_simp
      try with_reducible rfl
    try simp only [Act.put, List.setIfInBounds_toArray, List.set_cons_zero, List.set_cons_succ]
    refine fT_take (i := 9) (v := ?_) rfl (by kernel_rfl) (fun _ _ _ h => h) (by rfl) hSd ?_ ?_
    rotate_left 1
    · intro wS hSw
      obtain ⟨s1, s2⟩ := hSw
      go_simp
      try with_reducible rfl
    try simp only [Act.put, List.setIfInBounds_toArray, List.set_cons_zero, List.set_cons_succ]
    refine fT_take (i := 10) (v := ?_) rfl (by kernel_rfl) (fun _ _ _ h => h) (by rfl) hSd ?_ ?_
    rotate_left 1
    · intro wS hSw
      obtain ⟨s1, s2⟩ := hSw
      go_simp
      try with_reducible rfl
    try simp only [Act.put, List.setIfInBounds_toArray, List.set_cons_zero, List.set_cons_succ]
    refine fT_take (i := 11) (v := ?_) rfl (by kernel_rfl) (fun _ _ _ h => h) (by rfl) hSd ?_ ?_
    rotate_left 1
    · intro wS hSw
      obtain ⟨s1, s2⟩ := hSw
      go_simp
      try with_reducible rfl
    try simp only [Act.put, List.setIfInBounds_toArray, List.set_cons_zero, List.set_cons_succ]
    refine wpAnyF_next (i := 12) rfl (by kernel_rfl) (fun K hK => ?_)
    go_simp
    with_reducible refine (HC.out wq bd).mono ?_
    rintro e w5 ⟨a5, c5, rfl, hs5, hb5, hx5⟩
    have hB5 := bd.trans (hb5.mono bd.size)
    have hS5 : w5.cell? ⟨R, 0, none⟩ = some (.slice a S.length cap) ∧ w5.cell? ⟨R, 1, none⟩ = some (.int .i64 N) := ⟨(HS.out _ hB5).1, (HS.out _ hB5).2.1⟩
    obtain ⟨c5a, _, f5⟩ := HS.out _ hB5
    dsimp only
    refine hK.out _ _ (.inr hS5) ?_
    clear hK K
    try simp only [Act.put, List.setIfInBounds_toArray, List.set_cons_zero, List.set_cons_succ]
    refine fT_take (i := 13) (v := ?_) rfl (by kernel_rfl) (fun _ _ _ h => h) (by rfl) hS5 ?_ ?_
    rotate_left 1
    · intro wS hSw
      obtain ⟨s1, s2⟩ := hSw
      go_simp
      try with_reducible rfl
    try simp only [Act.put, List.setIfInBounds_toArray, List.set_cons_zero, List.set_cons_succ]
    refine fT_take (i := 14) (v := ?_) rfl (by kernel_rfl) (fun _ _ _ h => h) (by rfl) hS5 ?_ ?_
    rotate_left 1
    · intro wS hSw
      obtain ⟨s1, s2⟩ := hSw
      go_simp
      try with_reducible rfl
    try simp only [Act.put, List.setIfInBounds_toArray, List.set_cons_zero, List.set_cons_succ]
    refine wpAnyF_next (i := 15) rfl (by kernel_rfl) (fun K hK => ?_)
    go_simp
    refine hK.out _ _ (.inl rfl) ?_
    clear hK K
    try simp only [Act.put, List.setIfInBounds_toArray, List.set_cons_zero, List.set_cons_succ]
    refine wpAnyF_done (by kernel_rfl) ?_ _
    have k5 := H.out.blk.after hB5
    have k6 := k5.set 0 (.slice a5 (putK It.ky S ⟨d, N, t⟩).length c5)
    have n6 : (w5.setCell ⟨R, 0, none⟩ (.slice a5 (putK It.ky S ⟨d, N, t⟩).length c5)).cell? ⟨R, 1, none⟩ = some (.int .i64 N) := k6.cell 1 rfl
    have f6 := k6.free 1
    have k7 := k6.set 1 (.int .i64 (N + 1))
    have n7 : ((w5.setCell ⟨R, 0, none⟩ (.slice a5 (putK It.ky S ⟨d, N, t⟩).length c5)).setCell ⟨R, 1, none⟩ (.int .i64 (N + 1))).cell? ⟨R, 1, none⟩ = some (.int .i64 (N + 1)) := k7.cell 1 rfl
    have t6 := Turn.cell1 w5 R 0 (.slice a5 (putK It.ky S ⟨d, N, t⟩).length c5)
    have t7 := t6.trans (Turn.cell1 _ R 1 (.int .i64 (N + 1)))
    have HFin : Hid (RPutEnd w R a S N d t (.returned (.tuple #[.int .i64 N, .int .i64 0])) _) := ⟨fun _ => ⟨rfl, rg_set H.out (hs5.turn t7 (fun x e => by have := hx5 x e; have := bd.size; rw [List.mem_singleton]; omega)) (fun x e => by have := hx5 x e; have := bd.size; omega) ((Turn.of_below hB5).trans t7) k7 (fun x e => by have := hx5 x e; have := bd.size; right; omega)⟩, fun e => by rw [HD.out] at e; cases e⟩
    have i1 : IntKind.i64.wrap (N + 1) = N + 1 := IntWalk.i64_in _ (by omega)
    have i2 : IntKind.i64.wrap (N + 1 - 1) = N := by rw [IntWalk.i64_in _ (by omega)]; omega
    clear k5 k6 k7 t6 t7 hs5 hb5 hx5 hB5 hS5 hSd bd c5a f5
    go_wp2_with fail
    go_ret2
    exact HFin.out

end Go.Proofs.Ytgcncnmkfpfccaa
