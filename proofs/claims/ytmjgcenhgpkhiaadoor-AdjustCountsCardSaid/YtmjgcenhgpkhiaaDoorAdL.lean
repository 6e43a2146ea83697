/- The law's awake. -/
import Derived.Test.YtmjgcenhgpkhiaaDoorAdK
namespace Go.Proofs.YtmjgcenhgpkhiaaDoor
open Go.RowKit Go.Sort Go.Shelf
set_option linter.unusedVariables false
set_option linter.unusedSimpArgs false

theorem lit_own {α : Type} [Inhabited α] {w : World} {g size n base : Nat} {T : TypeId} {enc : α → List Value} {xs : List α} (h : Blk w g (cellsL enc xs).toArray T) (hs : ∀ x, (enc x).length = size) (hn : n = xs.length) (hm : n ≤ 1000) (hb : base ≤ g) : w.ownsRow base T size (.slice (some ⟨g, 0, none⟩) n n) n (cellsL enc xs) := by
  subst hn
  refine ⟨cellsL_len hs xs, .inr ⟨g, xs.length, _, rfl, hb, h, Nat.le_refl _, by unfold maxLen; omega, ?_, ?_⟩⟩
  · simp [cellsL_len hs xs]
  · simp [← cellsL_len hs xs]
theorem awake_plan (p : List Cg) (h : IsPlan [⟨4, 1, 0, 5⟩] [⟨1, 0, 7⟩, ⟨2, 0, 3⟩] p) : p = [⟨4, 1, 0, 5, 7⟩, ⟨-1, 2, 0, 0, 3⟩] := by
  have hk : ckE [⟨4, 1, 0, 5⟩] = 0 := by decide +kernel
  have ho : ordB [⟨1, 0, 7⟩, ⟨2, 0, 3⟩] = true := by decide +kernel
  have h2 := ref_plan (ckE_ok hk).2.2.1 ho
  have e : rpB [⟨4, 1, 0, 5⟩] (rpA [⟨1, 0, 7⟩, ⟨2, 0, 3⟩] [⟨4, 1, 0, 5⟩]) [⟨1, 0, 7⟩, ⟨2, 0, 3⟩] = [⟨4, 1, 0, 5, 7⟩, ⟨-1, 2, 0, 0, 3⟩] := by decide +kernel
  rw [e] at h2
  exact h.one h2
set_option maxHeartbeats 4000000 in
set_option maxRecDepth 100000 in
theorem awake_ok (w : World) : Calls Tryd.prog 7 #[] w (TrueEnd16 w) := by
  have hE : planE [⟨4, 1, 0, 5⟩] [⟨1, 0, 7⟩, ⟨2, 0, 3⟩] = 0 := by decide +kernel
  obtain ⟨w2, hw2⟩ : ∃ W, (w.alloc (.cells #[.int .i64 4, .int .i64 1, .int .i64 0, .int .i64 5] 62)).alloc (.cells #[.int .i64 1, .int .i64 0, .int .i64 7, .int .i64 2, .int .i64 0, .int .i64 3] 58) = W := ⟨_, rfl⟩
  have hb2 : Below w.heap.size w w2 := by rw [← hw2]; exact ((Below.refl _ _).alloc (Nat.le_refl _) _).alloc (by simp) _
  have k0 : Blk w2 w.heap.size (cellsL encL [⟨4, 1, 0, 5⟩]).toArray 62 := by rw [← hw2]; exact (Blk.new _ _ _).alloc _
  have k1 : Blk w2 (w.heap.size + 1) (cellsL encW [⟨1, 0, 7⟩, ⟨2, 0, 3⟩]).toArray 58 := by
    rw [← hw2]
    have := Blk.new (w.alloc (.cells #[.int .i64 4, .int .i64 1, .int .i64 0, .int .i64 5] 62)) #[.int .i64 1, .int .i64 0, .int .i64 7, .int .i64 2, .int .i64 0, .int .i64 3] 58
    rw [World.size_alloc] at this
    exact this
  obtain ⟨_, _, e0, s0, _⟩ := sl_own (xs := [(⟨4, 1, 0, 5⟩ : Lv)]) (enc := encL) (size := 4) (fun _ => rfl) (lit_own (n := 1) k0 (fun _ => rfl) rfl (by omega) (Nat.zero_le _))
  obtain ⟨_, _, e1, s1, _⟩ := sl_own (xs := [(⟨1, 0, 7⟩ : Fl), ⟨2, 0, 3⟩]) (enc := encW) (size := 3) (fun _ => rfl) (lit_own (n := 2) k1 (fun _ => rfl) rfl (by omega) (Nat.zero_le _))
  simp only [Value.slice.injEq, List.length_cons, List.length_nil, Nat.zero_add, true_and] at e0 e1
  obtain ⟨rfl, rfl⟩ := e0
  obtain ⟨rfl, rfl⟩ := e1
  have HC : Hid (Calls Tryd.prog 19 #[.slice (some ⟨w.heap.size, 0, none⟩) 1 1, .slice (some ⟨w.heap.size + 1, 0, none⟩) 2 2] w2 (PlanEnd w2 [⟨4, 1, 0, 5⟩] [⟨1, 0, 7⟩, ⟨2, 0, 3⟩])) := plan_ok _ 1 [⟨4, 1, 0, 5⟩] _ 2 [⟨1, 0, 7⟩, ⟨2, 0, 3⟩] w2 s0.g s1.g (by simp) (by simp) (by intro x hx; rw [List.mem_singleton.1 hx]; rfl)
  have HB2 := Lib.hid hb2
  have HW2 := Lib.hid hw2
  have HE := Lib.hid hE
  clear hE hw2 hb2 k0 k1 s0 s1
  go_enter Tryd.func7, Tryd.ntmps7
  go_wp2_with fail
  rw [HW2.out]
  with_reducible refine HC.out.mono ?_
  rintro e w3 ⟨a, cap, p, rfl, hs, hp, _, hb, _⟩
  obtain rfl := awake_plan p (hp HE.out)
  rw [HE.out]
  have HS := Lib.hid hs
  have HB3 := Lib.hid (HB2.out.trans (hb.mono HB2.out.size))
  obtain ⟨w4, hw4⟩ : ∃ W, w3.alloc (.cells #[.int .i64 4, .int .i64 1, .int .i64 0, .int .i64 5, .int .i64 7, .int .i64 (-1), .int .i64 2, .int .i64 0, .int .i64 0, .int .i64 3] 39) = W := ⟨_, rfl⟩
  have hb4 : Below w3.heap.size w3 w4 := by rw [← hw4]; exact (Below.refl _ _).alloc (Nat.le_refl _) _
  have k4 : Blk w4 w3.heap.size (cellsL encG [⟨4, 1, 0, 5, 7⟩, ⟨-1, 2, 0, 0, 3⟩]).toArray 39 := by rw [← hw4]; exact Blk.new _ _ _
  obtain ⟨_, _, e4, s4, _⟩ := sl_own (xs := [(⟨4, 1, 0, 5, 7⟩ : Cg), ⟨-1, 2, 0, 0, 3⟩]) (enc := encG) (size := 5) (fun _ => rfl) (lit_own (n := 2) k4 (fun _ => rfl) rfl (by omega) (Nat.zero_le _))
  simp only [Value.slice.injEq, List.length_cons, List.length_nil, Nat.zero_add, true_and] at e4
  obtain ⟨rfl, rfl⟩ := e4
  have HC4 : Hid (Calls Tryd.prog 20 #[.slice a 2 cap, .slice (some ⟨w3.heap.size, 0, none⟩) 2 2] w4 (TrueEnd16 w4)) := same_ok a _ cap 2 [⟨4, 1, 0, 5, 7⟩, ⟨-1, 2, 0, 0, 3⟩] w4 (RowsAt.after HS.out.recs hb4) s4.recs (by simp)
  have HB4 := Lib.hid (HB3.out.trans (hb4.mono HB3.out.size))
  have HW4 := Lib.hid hw4
  clear hs hp hb hw4 hb4 k4 s4
  go_wp2_with fail
  rw [HW4.out]
  with_reducible refine HC4.out.mono ?_
  rintro e w5 ⟨rfl, hb5⟩
  go_wp2_with fail
  go_ret
  exact ⟨rfl, HB4.out.trans (hb5.mono HB4.out.size)⟩

end Go.Proofs.YtmjgcenhgpkhiaaDoor
