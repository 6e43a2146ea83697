/- The chapter's awake; its sort. -/
import Derived.Test.YtglnnllodoljkaaDoorTermO
namespace Go.Proofs.YtglnnllodoljkaaDoor
open Go.RowKit Go.Shelf
set_option linter.unusedVariables false
set_option linter.unusedSimpArgs false

def aw3 : List Nd := [⟨13, 0, 0, 0, 0⟩, ⟨1, 0, 0, 2, 1⟩, ⟨10, 0, 0, 0, 0⟩]
def aw1 : List Nd := [⟨12, 0, 0, 0, 0⟩]
theorem aw3_in : NdsIn aw3 := fun i hi => by
  have : i = 0 ∨ i = 1 ∨ i = 2 := by simp [aw3] at hi; omega
  rcases this with rfl | rfl | rfl <;> simp [Nd.at, aw3, Nd.In]
theorem aw3_size : sizeV aw3 0 = (3, 0) := by decide
theorem aw3_places : placesV aw3 0 = [1, 2] := by decide
theorem aw1_size : sizeV aw1 0 = (0, 13) := by decide
theorem aw3_chk : chkV aw3 = 0 := by decide +kernel

theorem nds_blk {W : World} {B : Nat} {cs : Array Value} {T : TypeId} {ns : List Nd} (h : Blk W B cs T) (hc : ∀ i, i < ns.length → ∀ j, j < 5 → cs[i * 5 + j]? = (Nd.row ns i)[j]?) : NdsAt W (some ⟨B, 0, none⟩) ns := fun _ => ⟨B, 0, rfl, fun i hi j v hv => by
  have hj : j < 5 := (List.getElem?_eq_some_iff.1 hv).1
  have := h.cell (i * 5 + j) ((hc i hi j hj).trans hv)
  rwa [Nat.zero_add]⟩
theorem five {P : Nat → Prop} (h0 : P 0) (h1 : P 1) (h2 : P 2) (h3 : P 3) (h4 : P 4) : ∀ j, j < 5 → P j
  | 0, _ => h0
  | 1, _ => h1
  | 2, _ => h2
  | 3, _ => h3
  | 4, _ => h4
  | j + 5, h => by omega

set_option maxHeartbeats 2000000 in
set_option maxRecDepth 100000 in
theorem awake_ok (w : World) (hS : ShapesAt w) : Calls Tryd.prog 10 #[] w fun e w' => e = .returned (.bool true) ∧ Below w.heap.size w w' := by
  have HS := Lib.hid hS
  clear hS
  go_enter Tryd.func10, Tryd.ntmps10
  go_wp2_with fail
  obtain ⟨w1, hw1⟩ : ∃ w1, w.alloc (.cells #[.int .i64 13, .int .i64 0, .int .i64 0, .int .i64 0, .int .i64 0, .int .i64 1, .int .i64 0, .int .i64 0, .int .i64 2, .int .i64 1, .int .i64 10, .int .i64 0, .int .i64 0, .int .i64 0, .int .i64 0] 47) = w1 := ⟨_, rfl⟩
  have b1 : Hid (Below w.heap.size w w1) := by show Below _ _ _; rw [← hw1]; exact (Below.refl _ _).alloc (Nat.le_refl _) _
  have n1 : Hid (NdsAt w1 (some ⟨w.heap.size, 0, none⟩) aw3) := by
    refine nds_blk (by rw [← hw1]; exact Blk.new _ _ _) fun i hi => ?_
    have : i = 0 ∨ i = 1 ∨ i = 2 := by simp [aw3] at hi; omega
    rcases this with rfl | rfl | rfl
    all_goals exact five rfl rfl rfl rfl rfl
  have HZ := Lib.hid (size_ok (some ⟨w.heap.size, 0, none⟩) 3 aw3 (by decide) 0 w1 (HS.out.after b1.out) n1.out)
  unfold SizeEnd at HZ
  rw [aw3_size, show aw3.length = 3 from rfl] at HZ
  rw [hw1]
  clear hw1
  with_reducible refine HZ.out.mono ?_
  rintro e w2 ⟨rfl, hb2⟩
  have b2 : Hid (Below w.heap.size w w2) := b1.out.trans (hb2.mono b1.out.size)
  have n2 : Hid (NdsAt w2 (some ⟨w.heap.size, 0, none⟩) aw3) := n1.out.after hb2
  have HB := Lib.hid (below_ok (some ⟨w.heap.size, 0, none⟩) 3 aw3 (by decide) 0 w2 (HS.out.after b2.out) n2.out)
  rw [show aw3.length = 3 from rfl] at HB
  clear HZ hb2 n1 b1
  go_wp2_with fail
  with_reducible refine HB.out.mono ?_
  rintro e w3 ⟨v, rfl, hown, hb3⟩
  rw [show (sizeV aw3 0).2 = 0 by rw [aw3_size]]
  rw [aw3_places] at hown
  obtain ⟨la, lcap, rfl, _, _, hla⟩ := ints_own (xs := [1, 2]) hown rfl
  have HLA := Lib.hid hla
  have b3 : Hid (Below w.heap.size w w3) := b2.out.trans (hb3.mono b2.out.size)
  have n3 : Hid (NdsAt w3 (some ⟨w.heap.size, 0, none⟩) aw3) := n2.out.after hb3
  clear HB hb3 hown hla n2 b2
  go_wp2_with fail
  obtain ⟨w4, hw4⟩ : ∃ w4, w3.alloc (.cells #[.int .i64 12, .int .i64 0, .int .i64 0, .int .i64 0, .int .i64 0] 47) = w4 := ⟨_, rfl⟩
  have b34 : Hid (Below w3.heap.size w3 w4) := by show Below _ _ _; rw [← hw4]; exact (Below.refl _ _).alloc (Nat.le_refl _) _
  have b4 : Hid (Below w.heap.size w w4) := b3.out.trans (b34.out.mono b3.out.size)
  have m4 : Hid (NdsAt w4 (some ⟨w3.heap.size, 0, none⟩) aw1) := by
    refine nds_blk (by rw [← hw4]; exact Blk.new _ _ _) fun i hi => ?_
    obtain rfl : i = 0 := by simp [aw1] at hi; omega
    exact five rfl rfl rfl rfl rfl
  have HZ := Lib.hid (size_ok (some ⟨w3.heap.size, 0, none⟩) 1 aw1 (by decide) 0 w4 (HS.out.after b4.out) m4.out)
  unfold SizeEnd at HZ
  rw [aw1_size, show aw1.length = 1 from rfl] at HZ
  rw [hw4]
  clear hw4 m4
  with_reducible refine HZ.out.mono ?_
  rintro e w5 ⟨rfl, hb5⟩
  have b5 : Hid (Below w.heap.size w w5) := b4.out.trans (hb5.mono b4.out.size)
  have n5 : Hid (NdsAt w5 (some ⟨w.heap.size, 0, none⟩) aw3) := (n3.out.after b34.out).after hb5
  have i5 : Hid (IntsAt w5 la [1, 2]) := (HLA.out.after b34.out).after hb5
  clear HZ hb5 n3 HLA b34 b4
  go_wp2_with fail
  obtain ⟨w6, hw6⟩ : ∃ w6, w5.alloc (.cells #[.int .i64 1, .int .i64 2] 3) = w6 := ⟨_, rfl⟩
  have b56 : Hid (Below w5.heap.size w5 w6) := by show Below _ _ _; rw [← hw6]; exact (Below.refl _ _).alloc (Nat.le_refl _) _
  have b6 : Hid (Below w.heap.size w w6) := b5.out.trans (b56.out.mono b5.out.size)
  have j6 : Hid (IntsAt w6 (some ⟨w5.heap.size, 0, none⟩) [1, 2]) := fun _ => by
    have k6 : Blk w6 w5.heap.size #[.int .i64 1, .int .i64 2] 3 := by rw [← hw6]; exact Blk.new _ _ _
    refine ⟨w5.heap.size, 0, rfl, fun i hi j v hv => ?_⟩
    have hj : j = 0 := by have := (List.getElem?_eq_some_iff.1 hv).1; simp [intRow] at this; exact this
    subst hj
    have : i = 0 ∨ i = 1 := by simp at hi; omega
    rcases this with rfl | rfl
    · cases hv; exact k6.cell 0 rfl
    · cases hv; exact k6.cell 1 rfl
  have HI := Lib.hid (ints_ok la (some ⟨w5.heap.size, 0, none⟩) lcap 2 [1, 2] [1, 2] (by decide) w6 (i5.out.after b56.out) j6.out)
  rw [show decide (([1, 2] : List Int) = [1, 2]) = true from rfl, show ([1, 2] : List Int).length = 2 from rfl] at HI
  rw [hw6]
  clear hw6 j6
  with_reducible refine HI.out.mono ?_
  rintro e w7 ⟨rfl, hb7⟩
  have b7 : Hid (Below w.heap.size w w7) := b6.out.trans (hb7.mono b6.out.size)
  have HC := Lib.hid (check_ok (some ⟨w.heap.size, 0, none⟩) 3 aw3 (by decide) aw3_in w7 (HS.out.after b7.out) ((n5.out.after b56.out).after hb7))
  rw [aw3_chk, show aw3.length = 3 from rfl] at HC
  clear HI hb7 b56 n5 i5
  go_wp2_with fail
  with_reducible refine HC.out.mono ?_
  rintro e w8 ⟨rfl, hb8⟩
  go_wp2_with fail
  go_ret
  exact ⟨rfl, b7.out.trans (hb8.mono b7.out.size)⟩

set_option maxHeartbeats 1000000 in
set_option maxRecDepth 100000 in
theorem sortnum_ok (s : Int) (hs : s = 0 ∨ s = 1 ∨ s = 2) (w : World) : Calls Tryd.prog 18 #[.string (letV s)] w fun e w' => e = .returned (.int .i64 s) ∧ w' = w := by
  rcases hs with rfl | rfl | rfl
  all_goals
    simp only [letV]
    go_enter Tryd.func18, Tryd.ntmps18
    go_wp2_with fail
    go_ret
    exact ⟨rfl, rfl⟩

end Go.Proofs.YtglnnllodoljkaaDoor
