/- The document's ratios (package chattelref02): Of. -/
import Derived.Test.YtfimgdjpnlcckaaRefG
namespace Go.Proofs.Ytfimgdjpnlcckaa
open Go.RowKit
set_option linter.unusedVariables false
set_option linter.unusedSimpArgs false

def FracEnd (z1 z2 : Int) (w : World) (e : Ending) (w' : World) : Prop :=
  ∃ s a l cap t b m cap', e = .returned (.agg #[.bool s, .slice a l cap, .bool t, .slice b m cap']) ∧ BigAt w' z1 s a l cap ∧ BigAt w' z2 t b m cap' ∧ Below w.heap.size w w'

/-- The boxes of Of: the ratio's, and the answer's. -/
structure FracBox (w : World) (B : Nat) (x y : Int) : Prop where
  c0 : w.cell? ⟨B, 0, none⟩ = some (.int .i64 x)
  c1 : w.cell? ⟨B, 1, none⟩ = some (.int .i64 y)
  r0 : w.cell? ⟨B + 1, 0, none⟩ = some (.bool false)
  r1 : w.cell? ⟨B + 1, 1, none⟩ = some (.slice none 0 0)
  r2 : w.cell? ⟨B + 1, 2, none⟩ = some (.bool false)
  r3 : w.cell? ⟨B + 1, 3, none⟩ = some (.slice none 0 0)
  f0 : w.frozen? ⟨B + 1, 0, none⟩ = false
  f1 : w.frozen? ⟨B + 1, 1, none⟩ = false
  f2 : w.frozen? ⟨B + 1, 2, none⟩ = false
  f3 : w.frozen? ⟨B + 1, 3, none⟩ = false
theorem FracBox.after {w w' : World} {B : Nat} {x y : Int} (h : FracBox w B x y) (hb : Below w.heap.size w w') : FracBox w' B x y :=
  ⟨below_cell hb h.c0, below_cell hb h.c1, below_cell hb h.r0, below_cell hb h.r1, below_cell hb h.r2, below_cell hb h.r3, below_frozen hb h.r0 h.f0, below_frozen hb h.r1 h.f1, below_frozen hb h.r2 h.f2, below_frozen hb h.r3 h.f3⟩
theorem BigAt.away {w : World} {z : Int} {s : Bool} {a : Option Addr} {l cap : Nat} {B j : Nat} {v : Value} (h : BigAt w z s a l cap) (hn : ∀ x, a = some x → B < x.block) : BigAt (w.setCell ⟨B, j, none⟩ v) z s a l cap :=
  h.grown (grown_setCell w B j v) (fun x e h => by have := hn x e; cases h; omega)


set_option maxHeartbeats 2000000 in
set_option maxRecDepth 100000 in
theorem ref2of_ok (x y : Int) (h1 : -9223372036854775808 ≤ x) (h2 : x ≤ 9223372036854775807) (h3 : -9223372036854775808 ≤ y) (h4 : y ≤ 9223372036854775807) (w : World) :
    Calls Try.prog 39 #[.agg #[.int .i64 x, .int .i64 y]] w (FracEnd x y w) := by
  have HX := Lib.hid (of_big x h1 h2)
  have HY := Lib.hid (of_big y h3 h4)
  clear h1 h2 h3 h4
  obtain ⟨wa, hwa⟩ : ∃ wa, (w.alloc (.cells #[.int .i64 x, .int .i64 y] 29)).alloc (.cells #[.bool false, .slice none 0 0, .bool false, .slice none 0 0] 98) = wa := ⟨_, rfl⟩
  have k0 : Blk wa w.heap.size #[.int .i64 x, .int .i64 y] 29 := by rw [← hwa]; exact (Blk.new _ _ _).alloc _
  have k1 : Blk wa (w.heap.size + 1) #[.bool false, .slice none 0 0, .bool false, .slice none 0 0] 98 := by rw [← hwa]; have := Blk.new (w.alloc (.cells #[.int .i64 x, .int .i64 y] 29)) #[.bool false, .slice none 0 0, .bool false, .slice none 0 0] 98; simpa using this
  have ba : Hid (Below w.heap.size w wa) := by show Below _ _ _; rw [← hwa]; exact ((Below.refl _ _).alloc (Nat.le_refl _) _).alloc (by simp) _
  have hx : FracBox wa w.heap.size x y := ⟨k0.cell 0 rfl, k0.cell 1 rfl, k1.cell 0 rfl, k1.cell 1 rfl, k1.cell 2 rfl, k1.cell 3 rfl, k1.free 0, k1.free 1, k1.free 2, k1.free 3⟩
  have HSZ : Hid (w.heap.size + 2 ≤ wa.heap.size) := by show _ ≤ _; rw [← hwa]; simp
  clear k0 k1
  have n0 : w.heap.size ≠ w.heap.size + 1 := by omega
  go_enter Try.func39, Try.ntmps39
  go_wp2_with fail
  clear hwa
  have HFX := Lib.hid (hx.after ((Below.refl _ _).drew))
  go_region_held3 (fun w' => w'.cell? ⟨w.heap.size, 0, none⟩ = some (.int .i64 x) ∧ w'.cell? ⟨w.heap.size, 1, none⟩ = some (.int .i64 y))
    (first | with_reducible exact ⟨HFX.out.c0, HFX.out.c1⟩ | with_reducible exact ⟨hfx.c0, hfx.c1⟩ | with_reducible exact ⟨hfz.c0, hfz.c1⟩ | with_reducible exact ⟨set_far (set_far (set_far (set_far q0 n0) n0) n0) n0, set_far (set_far (set_far (set_far q1 n0) n0) n0) n0⟩)
    (first
      | ((with_reducible refine (HX.out wa.drew).mono ?_); rintro e w1 ⟨s1, a1, l1, cap1, rfl, hB1, hb1, hn1⟩; have hfx := HFX.out.after hb1)
      | ((with_reducible refine (HY.out w1).mono ?_); rintro e w2 ⟨s2, a2, l2, cap2, rfl, hB2, hb2, hn2⟩; have hfz := hfx.after hb2; obtain ⟨q0, q1, q2, q3, q4, q5, q6, q7, q8, q9⟩ := id hfz))
  have HB1 := Lib.hid (hB1.after hb2)
  have HB2 := Lib.hid hB2
  have z1 : wa.drew.heap.size = wa.heap.size := rfl
  have hs := HSZ.out
  have hb1s := hb1.size
  have hb2s := hb2.size
  have m1 : Hid (∀ x, a1 = some x → w.heap.size + 1 < x.block) := fun x e => by have := hn1 x e; omega
  have m2 : Hid (∀ x, a2 = some x → w.heap.size + 1 < x.block) := fun x e => by have := hn2 x e; omega
  have hbB : Hid (Below w.heap.size w w2) := (ba.out.drew.trans (hb1.mono (by omega))).trans (hb2.mono (by omega))
  clear hB1 hB2 hn1 hn2 hb1 hb2 z1 hx hfx hfz
  go_wp2_with fail
  refine bodyPost_ret (v := .agg #[.bool s1, .slice a1 l1 cap1, .bool s2, .slice a2 l2 cap2]) ?_ rfl ?_
  · simp [results, Try.results39, go_sem, q2, q3, q4, q5]
  · refine ⟨s1, a1, l1, cap1, s2, a2, l2, cap2, rfl, ?_, ?_, ?_⟩
    · exact (((HB1.out.away m1.out).away m1.out).away m1.out).away m1.out
    · exact (((HB2.out.away m2.out).away m2.out).away m2.out).away m2.out
    · exact (((hbB.out.setCell (p := ⟨w.heap.size + 1, 0, none⟩) (by simp) _).setCell (p := ⟨w.heap.size + 1, 1, none⟩) (by simp) _).setCell (p := ⟨w.heap.size + 1, 2, none⟩) (by simp) _).setCell (p := ⟨w.heap.size + 1, 3, none⟩) (by simp) _

end Go.Proofs.Ytfimgdjpnlcckaa
