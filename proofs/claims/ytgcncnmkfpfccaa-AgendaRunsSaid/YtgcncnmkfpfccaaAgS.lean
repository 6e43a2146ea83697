/- The law's awake. -/
import Derived.Test.YtgcncnmkfpfccaaAgR
namespace Go.Proofs.Ytgcncnmkfpfccaa
open Go.RowKit Go.Sort Go.Shelf
set_option linter.unusedVariables false
set_option linter.unusedSimpArgs false

theorem AgEnd.below {w w' : World} {n base B bm : Nat} {sv : Value} {S S' : List It} {N N' : Int} (h : AgEnd w base B bm sv S' N' w') (hA : AgAt w base B bm sv S N) (hb : n ≤ base) (hn : n ≤ w.heap.size) : Below n w w' :=
  h.turn.below hn fun b hb' => Nat.le_trans hb (hA.bs_lt b hb').1
theorem aw_put : putK It.ky [] ⟨5, 0, 1⟩ = [⟨5, 0, 1⟩] ∧ putK It.ky [⟨5, 0, 1⟩] ⟨3, 1, 2⟩ = [⟨3, 1, 2⟩, ⟨5, 0, 1⟩] ∧ putK It.ky [⟨3, 1, 2⟩, ⟨5, 0, 1⟩] ⟨5, 2, 3⟩ = [⟨3, 1, 2⟩, ⟨5, 0, 1⟩, ⟨5, 2, 3⟩] := by decide +kernel
theorem aw_take : takeS [⟨3, 1, 2⟩, ⟨5, 0, 1⟩, ⟨5, 2, 3⟩] 4 = [⟨5, 0, 1⟩, ⟨5, 2, 3⟩] ∧ takeS [⟨5, 0, 1⟩, ⟨5, 2, 3⟩] 4 = [⟨5, 0, 1⟩, ⟨5, 2, 3⟩] := by decide +kernel
theorem aw_v1 : itV (takeO [⟨3, 1, 2⟩, ⟨5, 0, 1⟩, ⟨5, 2, 3⟩] 4) = .tuple #[.agg #[.int .i64 3, .int .i64 1, .int .i64 2], .bool true] := rfl
theorem aw_v2 : itV (takeO [⟨5, 0, 1⟩, ⟨5, 2, 3⟩] 4) = .tuple #[.agg #[.int .i64 0, .int .i64 0, .int .i64 0], .bool false] := rfl
theorem aw_v3 : itV (takeO [⟨5, 0, 1⟩, ⟨5, 2, 3⟩] 9) = .tuple #[.agg #[.int .i64 5, .int .i64 0, .int .i64 1], .bool true] := rfl
def TrueEnd (w : World) (e : Ending) (w' : World) : Prop := e = .returned (.bool true) ∧ Below w.heap.size w w'
set_option maxRecDepth 100000 in
set_option maxHeartbeats 4000000 in
theorem awake_ok11 (w : World) : Calls Try.prog 10 #[] w (TrueEnd w) := by
  go_enter Try.func10, Try.ntmps10
  go_wp2_with fail
  with_reducible refine (anew_ok w.heap.size w (Nat.le_refl _)).mono ?_
  rintro e w1 ⟨B, bm, rfl, hA, hb1, gB, gm⟩
  have HAw1 := Lib.hid hA
  have HBw1 := Lib.hid hb1
  clear hA hb1
  have hp1 := put_ok w.heap.size B bm (.slice none 0 0) ([]) 0 5 1 (by decide) (by decide) w1 HBw1.out.size HAw1.out
  have HP1 := Lib.hid hp1
  clear hp1
  go_wp2_with fail
  with_reducible refine HP1.out.mono ?_
  rintro e w2 (⟨hd, _, _⟩ | ⟨_, rfl, hE⟩)
  · exact absurd hd (by decide)
  have HBw2 := Lib.hid (HBw1.out.trans (hE.below HAw1.out (Nat.le_refl _) HBw1.out.size))
  obtain ⟨sw2, hA, _⟩ := hE.ex
  rw [aw_put.1] at hA
  have HAw2 := Lib.hid hA
  clear hA hE HP1 HAw1
  have hp2 := put_ok w.heap.size B bm (sw2) ([⟨5, 0, 1⟩]) 1 3 2 (by decide) (by decide) w2 HBw2.out.size HAw2.out
  have HP2 := Lib.hid hp2
  clear hp2
  go_wp2_with fail
  with_reducible refine HP2.out.mono ?_
  rintro e w3 (⟨hd, _, _⟩ | ⟨_, rfl, hE⟩)
  · exact absurd hd (by decide)
  have HBw3 := Lib.hid (HBw2.out.trans (hE.below HAw2.out (Nat.le_refl _) HBw2.out.size))
  obtain ⟨sw3, hA, _⟩ := hE.ex
  rw [aw_put.2.1] at hA
  have HAw3 := Lib.hid hA
  clear hA hE HP2 HAw2
  have hp3 := put_ok w.heap.size B bm (sw3) ([⟨3, 1, 2⟩, ⟨5, 0, 1⟩]) 2 5 3 (by decide) (by decide) w3 HBw3.out.size HAw3.out
  have HP3 := Lib.hid hp3
  clear hp3
  go_wp2_with fail
  with_reducible refine HP3.out.mono ?_
  rintro e w4 (⟨hd, _, _⟩ | ⟨_, rfl, hE⟩)
  · exact absurd hd (by decide)
  have HBw4 := Lib.hid (HBw3.out.trans (hE.below HAw3.out (Nat.le_refl _) HBw3.out.size))
  obtain ⟨sw4, hA, _⟩ := hE.ex
  rw [aw_put.2.2] at hA
  have HAw4 := Lib.hid hA
  clear hA hE HP3 HAw3
  have hp4 := take_ok w.heap.size B bm (sw4) ([⟨3, 1, 2⟩, ⟨5, 0, 1⟩, ⟨5, 2, 3⟩]) 3 4 (by decide) w4 HAw4.out
  have HP4 := Lib.hid hp4
  clear hp4
  go_wp2_with fail
  skip
  with_reducible refine HP4.out.mono ?_
  rintro e w5 ⟨rfl, hE⟩
  rw [aw_v1]
  have hbw5 := HBw4.out.trans (hE.below HAw4.out (Nat.le_refl _) HBw4.out.size)
  obtain ⟨sw5, hA, hs⟩ := hE.ex
  rw [aw_take.1] at hA
  obtain ⟨w6, hww6⟩ : ∃ W, w5.alloc (.cells #[.int .i64 3, .int .i64 1, .int .i64 2] 31) = W := ⟨_, rfl⟩
  have hbw6 : Below w5.heap.size w5 w6 := by rw [← hww6]; exact (Below.refl _ _).alloc (Nat.le_refl _) _
  have Kw6 := Blk.new w5 #[.int .i64 3, .int .i64 1, .int .i64 2] 31
  rw [hww6] at Kw6
  have HAw6 := Lib.hid (hA.after hbw6)
  have HBw6 := Lib.hid (hbw5.trans (hbw6.mono hbw5.size))
  have HWw6 := Lib.hid hww6
  have HKw6 := Lib.hid Kw6
  have HNo6 : Hid (∀ b ∈ PAt.bs B bm sw5, b < w5.heap.size) := fun b hb => (hA.bs_lt b hb).2
  clear hww6 hbw6 Kw6 hbw5 hA hs hE HAw4 HBw4 HP4
  have hp5 := take_ok w.heap.size B bm (sw5) ([⟨5, 0, 1⟩, ⟨5, 2, 3⟩]) 3 4 (by decide) w6 HAw6.out
  have HP5 := Lib.hid hp5
  clear hp5
  go_wp2_with fail
  rw [HWw6.out]
  with_reducible refine HP5.out.mono ?_
  rintro e w7 ⟨rfl, hE⟩
  rw [aw_v2]
  have hbw7 := HBw6.out.trans (hE.below HAw6.out (Nat.le_refl _) HBw6.out.size)
  obtain ⟨sw7, hA, hs⟩ := hE.ex
  rw [aw_take.2] at hA
  obtain ⟨w8, hww8⟩ : ∃ W, w7.alloc (.cells #[.int .i64 0, .int .i64 0, .int .i64 0] 31) = W := ⟨_, rfl⟩
  have hbw8 : Below w7.heap.size w7 w8 := by rw [← hww8]; exact (Below.refl _ _).alloc (Nat.le_refl _) _
  have Kw8 := Blk.new w7 #[.int .i64 0, .int .i64 0, .int .i64 0] 31
  rw [hww8] at Kw8
  have HAw8 := Lib.hid (hA.after hbw8)
  have HBw8 := Lib.hid (hbw7.trans (hbw8.mono hbw7.size))
  have HWw8 := Lib.hid hww8
  have HKw8 := Lib.hid Kw8
  have hno7 := fun b hb => (hA.bs_lt b hb).2
  have K68 : Blk w8 w5.heap.size #[.int .i64 3, .int .i64 1, .int .i64 2] 31 := (hE.turn.blk HKw6.out (fun hb => by have := HNo6.out _ hb; omega)).after hbw8
  have HK68 := Lib.hid K68
  have hz7 : w5.heap.size < w7.heap.size := by
    have h1 := HKw6.out.lt
    have h2 := hE.turn.size
    omega
  have HNo8 : Hid (w5.heap.size ∉ PAt.bs B bm sw7) := fun hb => by
    rcases bs_sub hs _ hb with h1 | h1
    · have := HNo6.out _ h1
      omega
    · have := HKw6.out.lt
      omega
  clear hww8 hbw8 Kw8 hbw7 hA hs hE HAw6 HBw6 HP5 hno7 K68 HKw6 HWw6
  have hp6 := take_ok w.heap.size B bm (sw7) ([⟨5, 0, 1⟩, ⟨5, 2, 3⟩]) 3 9 (by decide) w8 HAw8.out
  have HP6 := Lib.hid hp6
  clear hp6
  go_wp2_with fail
  rw [HWw8.out]
  with_reducible refine HP6.out.mono ?_
  rintro e w9 ⟨rfl, hE⟩
  rw [aw_v3]
  have hbw9 := HBw8.out.trans (hE.below HAw8.out (Nat.le_refl _) HBw8.out.size)
  obtain ⟨sw9, hA, hs⟩ := hE.ex
  skip
  obtain ⟨w10, hww10⟩ : ∃ W, w9.alloc (.cells #[.int .i64 5, .int .i64 0, .int .i64 1] 31) = W := ⟨_, rfl⟩
  have hbw10 : Below w9.heap.size w9 w10 := by rw [← hww10]; exact (Below.refl _ _).alloc (Nat.le_refl _) _
  have Kw10 := Blk.new w9 #[.int .i64 5, .int .i64 0, .int .i64 1] 31
  rw [hww10] at Kw10
  have HAw10 := Lib.hid (hA.after hbw10)
  have HBw10 := Lib.hid (hbw9.trans (hbw10.mono hbw9.size))
  have HWw10 := Lib.hid hww10
  have HKw10 := Lib.hid Kw10
  have K60 : Blk w10 w5.heap.size #[.int .i64 3, .int .i64 1, .int .i64 2] 31 := (hE.turn.blk HK68.out HNo8.out).after hbw10
  have c0 : w10.cell? ⟨w5.heap.size, 0, none⟩ = some (.int .i64 3) := K60.cell 0 rfl
  have c1 : w10.cell? ⟨w5.heap.size, 1, none⟩ = some (.int .i64 1) := K60.cell 1 rfl
  have c2 : w10.cell? ⟨w5.heap.size, 2, none⟩ = some (.int .i64 2) := K60.cell 2 rfl
  have d0 : w10.cell? ⟨w9.heap.size, 0, none⟩ = some (.int .i64 5) := Kw10.cell 0 rfl
  have d1 : w10.cell? ⟨w9.heap.size, 1, none⟩ = some (.int .i64 0) := Kw10.cell 1 rfl
  have d2 : w10.cell? ⟨w9.heap.size, 2, none⟩ = some (.int .i64 1) := Kw10.cell 2 rfl
  have qi := item_eql
  rw [← hww10] at c0 c1 c2 d0 d1 d2
  clear hww10 hbw10 Kw10 hbw9 hA hs hE HAw8 HBw8 HP6 HK68 HKw10 K60 HAw10 HWw8
  go_wp2_with fail
  rw [HWw10.out]
  go_ret
  exact ⟨rfl, HBw10.out⟩
end Go.Proofs.Ytgcncnmkfpfccaa
