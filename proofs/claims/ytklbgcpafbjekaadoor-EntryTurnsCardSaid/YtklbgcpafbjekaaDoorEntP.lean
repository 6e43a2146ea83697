/- awake: the chapter's example. -/
import Derived.Test.YtklbgcpafbjekaaDoorEntO
namespace Go.Proofs.YtklbgcpafbjekaaDoor
open Go.RowKit
set_option linter.unusedVariables false
set_option linter.unusedSimpArgs false

theorem wf_small {ls : List Ln} (h : ∀ l ∈ ls, (-1000 ≤ l.p ∧ l.p ≤ 1000) ∧ (-1000 ≤ l.c ∧ l.c ≤ 1000) ∧ (-1000 ≤ l.a ∧ l.a ≤ 1000)) : AllWf ls := fun l hl => by
  obtain ⟨⟨a, b⟩, ⟨c, d⟩, ⟨e, f⟩⟩ := h l hl
  unfold Ln.wf
  omega

theorem amount_eq (s : Six) (party : Int) (a : Option Addr) (cap : Nat) (ls : List Ln) (w : World) (hx : LnAt w a ls) (hl : ls.length ≤ 1000000) {z : Int} (hz : amtK ls party ls.length = z) :
    Calls Tryd.prog 21 #[entV s a ls.length cap, .int .i64 party] w fun e w' => e = .returned (.int .i64 z) ∧ Below w.heap.size w w' := hz ▸ amount_ok s party a cap ls w hx hl

set_option maxHeartbeats 4000000 in
theorem awake_ok (w : World) (hR : RulesAt w) : Calls Tryd.prog 9 #[] w fun e w' => e = .returned (.bool true) ∧ Below w.heap.size w w' := by
  have HR := Lib.hid hR
  clear hR
  go_enter Tryd.func9, Tryd.ntmps9
  go_wp2_with fail
  with_reducible refine (flow_ok 1 5 0 70 2 3 _ (by omega)).mono ?_
  rintro e w1 ⟨hb1, ⟨_, c, rfl, hl1, hc1⟩ | ⟨h, _⟩⟩
  rotate_left
  · exact absurd (by decide) h
  unfold entV
  have HL1 := Lib.hid hl1
  obtain ⟨wa, hwa⟩ : ∃ wa, w1.alloc (.cells #[.int .i64 1, .int .i64 5, .int .i64 0, .int .i64 0, .int .i64 0, .int .i64 (-1), .slice (some ⟨c, 0, none⟩) 2 2] 26) = wa := ⟨_, rfl⟩
  have ka : Blk wa w1.heap.size #[.int .i64 1, .int .i64 5, .int .i64 0, .int .i64 0, .int .i64 0, .int .i64 (-1), .slice (some ⟨c, 0, none⟩) 2 2] 26 := by rw [← hwa]; exact Blk.new _ _ _
  have hba : Below w1.heap.size w1 wa := by rw [← hwa]; exact (Below.refl _ _).alloc (Nat.le_refl _) _
  have KA := Lib.hid ka
  have hbwa : Below w.heap.size w wa := hb1.trans (hba.mono hb1.size)
  have hrev : Calls Tryd.prog 10 #[.agg #[.int .i64 1, .int .i64 5, .int .i64 0, .int .i64 0, .int .i64 0, .int .i64 (-1), .slice (some ⟨c, 0, none⟩) 2 2], .int .i64 0] wa (RevEnd ⟨1, 5, 0, 0, 0, -1⟩ [⟨2, 0, 70⟩, ⟨3, 0, -70⟩] 0 wa) :=
    reverse_ok ⟨1, 5, 0, 0, 0, -1⟩ 0 (some ⟨c, 0, none⟩) 2 [⟨2, 0, 70⟩, ⟨3, 0, -70⟩] wa (HR.out.after hbwa) (HL1.out.after hba) (by simp) (wf_small (by intro l hl; simp at hl; rcases hl with rfl | rfl <;> simp)) (by simp)
  have HREV := Lib.hid hrev
  clear ka hrev hl1
  have a0 : wa.cell? ⟨w1.heap.size, 0, none⟩ = some (.int .i64 1) := KA.out.cell 0 rfl
  have a1 : wa.cell? ⟨w1.heap.size, 1, none⟩ = some (.int .i64 5) := KA.out.cell 1 rfl
  have a2 : wa.cell? ⟨w1.heap.size, 2, none⟩ = some (.int .i64 0) := KA.out.cell 2 rfl
  have a3 : wa.cell? ⟨w1.heap.size, 3, none⟩ = some (.int .i64 0) := KA.out.cell 3 rfl
  have a4 : wa.cell? ⟨w1.heap.size, 4, none⟩ = some (.int .i64 0) := KA.out.cell 4 rfl
  have a5 : wa.cell? ⟨w1.heap.size, 5, none⟩ = some (.int .i64 (-1)) := KA.out.cell 5 rfl
  have a6 : wa.cell? ⟨w1.heap.size, 6, none⟩ = some (.slice (some ⟨c, 0, none⟩) 2 2) := KA.out.cell 6 rfl
  go_wp2_with fail
  clear hwa a0 a1 a2 a3 a4 a5 a6
  with_reducible refine HREV.out.mono ?_
  rintro e w2 ⟨hb2, ⟨_, d, dcap, rfl, hd0, hl2, hd2⟩ | ⟨h, _⟩⟩
  rotate_left
  · exact absurd (by decide) h
  dsimp only [entV, List.length]
  have HL2 : Hid (LnAt w2 d [⟨2, 0, -70⟩, ⟨3, 0, 70⟩]) := hl2
  have HD := Lib.hid hd0
  obtain ⟨wb, hwb⟩ : ∃ wb, w2.alloc (.cells #[.int .i64 1, .int .i64 5, .int .i64 0, .int .i64 0, .int .i64 0, .int .i64 0, .slice d 2 dcap] 26) = wb := ⟨_, rfl⟩
  have kb : Blk wb w2.heap.size #[.int .i64 1, .int .i64 5, .int .i64 0, .int .i64 0, .int .i64 0, .int .i64 0, .slice d 2 dcap] 26 := by rw [← hwb]; exact Blk.new _ _ _
  have hbb : Below w2.heap.size w2 wb := by rw [← hwb]; exact (Below.refl _ _).alloc (Nat.le_refl _) _
  have KB := Lib.hid kb
  have hbab : Below wa.heap.size wa wb := hb2.trans (hbb.mono hb2.size)
  have KA2 := Lib.hid (KA.out.after hbab)
  have HLA := Lib.hid ((HL1.out.after hba).after hbab)
  have HLB := Lib.hid (HL2.out.after hbb)
  have hbwb : Below w.heap.size w wb := hbwa.trans (hbab.mono hbwa.size)
  clear hl2 kb hd0 hd2
  have am1 : ∀ W, Below wb.heap.size wb W → Calls Tryd.prog 21 #[.agg #[.int .i64 1, .int .i64 5, .int .i64 0, .int .i64 0, .int .i64 0, .int .i64 (-1), .slice (some ⟨c, 0, none⟩) 2 2], .int .i64 2] W fun e w' => e = .returned (.int .i64 70) ∧ Below W.heap.size W w' := fun W hW =>
    amount_eq ⟨1, 5, 0, 0, 0, -1⟩ 2 (some ⟨c, 0, none⟩) 2 [⟨2, 0, 70⟩, ⟨3, 0, -70⟩] W (HLA.out.after hW) (by simp) (by kernel_rfl)
  have am2 : ∀ W, Below wb.heap.size wb W → Calls Tryd.prog 21 #[.agg #[.int .i64 1, .int .i64 5, .int .i64 0, .int .i64 0, .int .i64 0, .int .i64 (-1), .slice (some ⟨c, 0, none⟩) 2 2], .int .i64 3] W fun e w' => e = .returned (.int .i64 (-70)) ∧ Below W.heap.size W w' := fun W hW =>
    amount_eq ⟨1, 5, 0, 0, 0, -1⟩ 3 (some ⟨c, 0, none⟩) 2 [⟨2, 0, 70⟩, ⟨3, 0, -70⟩] W (HLA.out.after hW) (by simp) (by kernel_rfl)
  have am3 : ∀ W, Below wb.heap.size wb W → Calls Tryd.prog 21 #[.agg #[.int .i64 1, .int .i64 5, .int .i64 0, .int .i64 0, .int .i64 0, .int .i64 0, .slice d 2 dcap], .int .i64 2] W fun e w' => e = .returned (.int .i64 (-70)) ∧ Below W.heap.size W w' := fun W hW =>
    amount_eq ⟨1, 5, 0, 0, 0, 0⟩ 2 d dcap [⟨2, 0, -70⟩, ⟨3, 0, 70⟩] W (HLB.out.after hW) (by simp) (by kernel_rfl)
  have mir : ∀ W, Below wb.heap.size wb W → Calls Tryd.prog 19 #[.agg #[.int .i64 1, .int .i64 5, .int .i64 0, .int .i64 0, .int .i64 0, .int .i64 (-1), .slice (some ⟨c, 0, none⟩) 2 2], .agg #[.int .i64 1, .int .i64 5, .int .i64 0, .int .i64 0, .int .i64 0, .int .i64 0, .slice d 2 dcap]] W fun e w' => e = .returned (.bool true) ∧ Below W.heap.size W w' := fun W hW =>
    mirrors_ok ⟨1, 5, 0, 0, 0, -1⟩ ⟨1, 5, 0, 0, 0, 0⟩ (some ⟨c, 0, none⟩) d 2 dcap [⟨2, 0, 70⟩, ⟨3, 0, -70⟩] [⟨2, 0, -70⟩, ⟨3, 0, 70⟩] W rfl (HLA.out.after hW) (HLB.out.after hW) (by simp) (by simp) (by simp) (by intro l hl; simp at hl; rcases hl with rfl | rfl <;> simp)
  have AM1 := Lib.hid am1
  have AM2 := Lib.hid am2
  have AM3 := Lib.hid am3
  have MIR := Lib.hid mir
  clear am1 am2 am3 mir
  have a0 : wb.cell? ⟨w1.heap.size, 0, none⟩ = some (.int .i64 1) := (KA2.out.after (Below.refl _ _)).cell 0 rfl
  have a1 : wb.cell? ⟨w1.heap.size, 1, none⟩ = some (.int .i64 5) := (KA2.out.after (Below.refl _ _)).cell 1 rfl
  have a2 : wb.cell? ⟨w1.heap.size, 2, none⟩ = some (.int .i64 0) := (KA2.out.after (Below.refl _ _)).cell 2 rfl
  have a3 : wb.cell? ⟨w1.heap.size, 3, none⟩ = some (.int .i64 0) := (KA2.out.after (Below.refl _ _)).cell 3 rfl
  have a4 : wb.cell? ⟨w1.heap.size, 4, none⟩ = some (.int .i64 0) := (KA2.out.after (Below.refl _ _)).cell 4 rfl
  have a5 : wb.cell? ⟨w1.heap.size, 5, none⟩ = some (.int .i64 (-1)) := (KA2.out.after (Below.refl _ _)).cell 5 rfl
  have a6 : wb.cell? ⟨w1.heap.size, 6, none⟩ = some (.slice (some ⟨c, 0, none⟩) 2 2) := (KA2.out.after (Below.refl _ _)).cell 6 rfl
  have b0 : wb.cell? ⟨w2.heap.size, 0, none⟩ = some (.int .i64 1) := (KB.out.after (Below.refl _ _)).cell 0 rfl
  have b1 : wb.cell? ⟨w2.heap.size, 1, none⟩ = some (.int .i64 5) := (KB.out.after (Below.refl _ _)).cell 1 rfl
  have b2 : wb.cell? ⟨w2.heap.size, 2, none⟩ = some (.int .i64 0) := (KB.out.after (Below.refl _ _)).cell 2 rfl
  have b3 : wb.cell? ⟨w2.heap.size, 3, none⟩ = some (.int .i64 0) := (KB.out.after (Below.refl _ _)).cell 3 rfl
  have b4 : wb.cell? ⟨w2.heap.size, 4, none⟩ = some (.int .i64 0) := (KB.out.after (Below.refl _ _)).cell 4 rfl
  have b5 : wb.cell? ⟨w2.heap.size, 5, none⟩ = some (.int .i64 0) := (KB.out.after (Below.refl _ _)).cell 5 rfl
  have b6 : wb.cell? ⟨w2.heap.size, 6, none⟩ = some (.slice d 2 dcap) := (KB.out.after (Below.refl _ _)).cell 6 rfl
  go_wp2_with fail
  clear hwb
  clear a0 a1 a2 a3 a4 a5 a6 b0 b1 b2 b3 b4 b5 b6
  with_reducible refine (AM1.out _ (Below.refl _ _)).mono ?_
  rintro e w3 ⟨rfl, hb3⟩
  have a0 : w3.cell? ⟨w1.heap.size, 0, none⟩ = some (.int .i64 1) := (KA2.out.after (hb3)).cell 0 rfl
  have a1 : w3.cell? ⟨w1.heap.size, 1, none⟩ = some (.int .i64 5) := (KA2.out.after (hb3)).cell 1 rfl
  have a2 : w3.cell? ⟨w1.heap.size, 2, none⟩ = some (.int .i64 0) := (KA2.out.after (hb3)).cell 2 rfl
  have a3 : w3.cell? ⟨w1.heap.size, 3, none⟩ = some (.int .i64 0) := (KA2.out.after (hb3)).cell 3 rfl
  have a4 : w3.cell? ⟨w1.heap.size, 4, none⟩ = some (.int .i64 0) := (KA2.out.after (hb3)).cell 4 rfl
  have a5 : w3.cell? ⟨w1.heap.size, 5, none⟩ = some (.int .i64 (-1)) := (KA2.out.after (hb3)).cell 5 rfl
  have a6 : w3.cell? ⟨w1.heap.size, 6, none⟩ = some (.slice (some ⟨c, 0, none⟩) 2 2) := (KA2.out.after (hb3)).cell 6 rfl
  have b0 : w3.cell? ⟨w2.heap.size, 0, none⟩ = some (.int .i64 1) := (KB.out.after (hb3)).cell 0 rfl
  have b1 : w3.cell? ⟨w2.heap.size, 1, none⟩ = some (.int .i64 5) := (KB.out.after (hb3)).cell 1 rfl
  have b2 : w3.cell? ⟨w2.heap.size, 2, none⟩ = some (.int .i64 0) := (KB.out.after (hb3)).cell 2 rfl
  have b3 : w3.cell? ⟨w2.heap.size, 3, none⟩ = some (.int .i64 0) := (KB.out.after (hb3)).cell 3 rfl
  have b4 : w3.cell? ⟨w2.heap.size, 4, none⟩ = some (.int .i64 0) := (KB.out.after (hb3)).cell 4 rfl
  have b5 : w3.cell? ⟨w2.heap.size, 5, none⟩ = some (.int .i64 0) := (KB.out.after (hb3)).cell 5 rfl
  have b6 : w3.cell? ⟨w2.heap.size, 6, none⟩ = some (.slice d 2 dcap) := (KB.out.after (hb3)).cell 6 rfl
  go_wp2_with fail
  clear a0 a1 a2 a3 a4 a5 a6 b0 b1 b2 b3 b4 b5 b6
  with_reducible refine (AM2.out _ hb3).mono ?_
  rintro e w4 ⟨rfl, hb4⟩
  replace hb4 := hb3.trans (hb4.mono hb3.size)
  have a0 : w4.cell? ⟨w1.heap.size, 0, none⟩ = some (.int .i64 1) := (KA2.out.after (hb4)).cell 0 rfl
  have a1 : w4.cell? ⟨w1.heap.size, 1, none⟩ = some (.int .i64 5) := (KA2.out.after (hb4)).cell 1 rfl
  have a2 : w4.cell? ⟨w1.heap.size, 2, none⟩ = some (.int .i64 0) := (KA2.out.after (hb4)).cell 2 rfl
  have a3 : w4.cell? ⟨w1.heap.size, 3, none⟩ = some (.int .i64 0) := (KA2.out.after (hb4)).cell 3 rfl
  have a4 : w4.cell? ⟨w1.heap.size, 4, none⟩ = some (.int .i64 0) := (KA2.out.after (hb4)).cell 4 rfl
  have a5 : w4.cell? ⟨w1.heap.size, 5, none⟩ = some (.int .i64 (-1)) := (KA2.out.after (hb4)).cell 5 rfl
  have a6 : w4.cell? ⟨w1.heap.size, 6, none⟩ = some (.slice (some ⟨c, 0, none⟩) 2 2) := (KA2.out.after (hb4)).cell 6 rfl
  have b0 : w4.cell? ⟨w2.heap.size, 0, none⟩ = some (.int .i64 1) := (KB.out.after (hb4)).cell 0 rfl
  have b1 : w4.cell? ⟨w2.heap.size, 1, none⟩ = some (.int .i64 5) := (KB.out.after (hb4)).cell 1 rfl
  have b2 : w4.cell? ⟨w2.heap.size, 2, none⟩ = some (.int .i64 0) := (KB.out.after (hb4)).cell 2 rfl
  have b3 : w4.cell? ⟨w2.heap.size, 3, none⟩ = some (.int .i64 0) := (KB.out.after (hb4)).cell 3 rfl
  have b4 : w4.cell? ⟨w2.heap.size, 4, none⟩ = some (.int .i64 0) := (KB.out.after (hb4)).cell 4 rfl
  have b5 : w4.cell? ⟨w2.heap.size, 5, none⟩ = some (.int .i64 0) := (KB.out.after (hb4)).cell 5 rfl
  have b6 : w4.cell? ⟨w2.heap.size, 6, none⟩ = some (.slice d 2 dcap) := (KB.out.after (hb4)).cell 6 rfl
  go_wp2_with fail
  clear a0 a1 a2 a3 a4 a5 a6 b0 b1 b2 b3 b4 b5 b6
  with_reducible refine (AM3.out _ hb4).mono ?_
  rintro e w5 ⟨rfl, hb5⟩
  replace hb5 := hb4.trans (hb5.mono hb4.size)
  have a0 : w5.cell? ⟨w1.heap.size, 0, none⟩ = some (.int .i64 1) := (KA2.out.after (hb5)).cell 0 rfl
  have a1 : w5.cell? ⟨w1.heap.size, 1, none⟩ = some (.int .i64 5) := (KA2.out.after (hb5)).cell 1 rfl
  have a2 : w5.cell? ⟨w1.heap.size, 2, none⟩ = some (.int .i64 0) := (KA2.out.after (hb5)).cell 2 rfl
  have a3 : w5.cell? ⟨w1.heap.size, 3, none⟩ = some (.int .i64 0) := (KA2.out.after (hb5)).cell 3 rfl
  have a4 : w5.cell? ⟨w1.heap.size, 4, none⟩ = some (.int .i64 0) := (KA2.out.after (hb5)).cell 4 rfl
  have a5 : w5.cell? ⟨w1.heap.size, 5, none⟩ = some (.int .i64 (-1)) := (KA2.out.after (hb5)).cell 5 rfl
  have a6 : w5.cell? ⟨w1.heap.size, 6, none⟩ = some (.slice (some ⟨c, 0, none⟩) 2 2) := (KA2.out.after (hb5)).cell 6 rfl
  have b0 : w5.cell? ⟨w2.heap.size, 0, none⟩ = some (.int .i64 1) := (KB.out.after (hb5)).cell 0 rfl
  have b1 : w5.cell? ⟨w2.heap.size, 1, none⟩ = some (.int .i64 5) := (KB.out.after (hb5)).cell 1 rfl
  have b2 : w5.cell? ⟨w2.heap.size, 2, none⟩ = some (.int .i64 0) := (KB.out.after (hb5)).cell 2 rfl
  have b3 : w5.cell? ⟨w2.heap.size, 3, none⟩ = some (.int .i64 0) := (KB.out.after (hb5)).cell 3 rfl
  have b4 : w5.cell? ⟨w2.heap.size, 4, none⟩ = some (.int .i64 0) := (KB.out.after (hb5)).cell 4 rfl
  have b5 : w5.cell? ⟨w2.heap.size, 5, none⟩ = some (.int .i64 0) := (KB.out.after (hb5)).cell 5 rfl
  have b6 : w5.cell? ⟨w2.heap.size, 6, none⟩ = some (.slice d 2 dcap) := (KB.out.after (hb5)).cell 6 rfl
  go_wp2_with fail
  clear a0 a1 a2 a3 a4 a5 a6 b0 b1 b2 b3 b4 b5 b6
  with_reducible refine (MIR.out _ hb5).mono ?_
  rintro e w6 ⟨rfl, hb6⟩
  replace hb6 := hb5.trans (hb6.mono hb5.size)
  have a0 : w6.cell? ⟨w1.heap.size, 0, none⟩ = some (.int .i64 1) := (KA2.out.after (hb6)).cell 0 rfl
  have a1 : w6.cell? ⟨w1.heap.size, 1, none⟩ = some (.int .i64 5) := (KA2.out.after (hb6)).cell 1 rfl
  have a2 : w6.cell? ⟨w1.heap.size, 2, none⟩ = some (.int .i64 0) := (KA2.out.after (hb6)).cell 2 rfl
  have a3 : w6.cell? ⟨w1.heap.size, 3, none⟩ = some (.int .i64 0) := (KA2.out.after (hb6)).cell 3 rfl
  have a4 : w6.cell? ⟨w1.heap.size, 4, none⟩ = some (.int .i64 0) := (KA2.out.after (hb6)).cell 4 rfl
  have a5 : w6.cell? ⟨w1.heap.size, 5, none⟩ = some (.int .i64 (-1)) := (KA2.out.after (hb6)).cell 5 rfl
  have a6 : w6.cell? ⟨w1.heap.size, 6, none⟩ = some (.slice (some ⟨c, 0, none⟩) 2 2) := (KA2.out.after (hb6)).cell 6 rfl
  have b0 : w6.cell? ⟨w2.heap.size, 0, none⟩ = some (.int .i64 1) := (KB.out.after (hb6)).cell 0 rfl
  have b1 : w6.cell? ⟨w2.heap.size, 1, none⟩ = some (.int .i64 5) := (KB.out.after (hb6)).cell 1 rfl
  have b2 : w6.cell? ⟨w2.heap.size, 2, none⟩ = some (.int .i64 0) := (KB.out.after (hb6)).cell 2 rfl
  have b3 : w6.cell? ⟨w2.heap.size, 3, none⟩ = some (.int .i64 0) := (KB.out.after (hb6)).cell 3 rfl
  have b4 : w6.cell? ⟨w2.heap.size, 4, none⟩ = some (.int .i64 0) := (KB.out.after (hb6)).cell 4 rfl
  have b5 : w6.cell? ⟨w2.heap.size, 5, none⟩ = some (.int .i64 0) := (KB.out.after (hb6)).cell 5 rfl
  have b6 : w6.cell? ⟨w2.heap.size, 6, none⟩ = some (.slice d 2 dcap) := (KB.out.after (hb6)).cell 6 rfl
  go_wp2_with fail
  go_ret
  exact ⟨rfl, hbwb.trans (hb6.mono hbwb.size)⟩
end Go.Proofs.YtklbgcpafbjekaaDoor
