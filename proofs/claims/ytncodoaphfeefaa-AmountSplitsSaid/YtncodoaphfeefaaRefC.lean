/- The reference's numbers as bits (package chattelref01): Sum, Int. -/
import Derived.Test.YtncodoaphfeefaaRefBa
import Derived.RegionTactic
import Derived.RegionCalls
import Derived.Deep.RegionWith
import Derived.Deep.DeepCutAuto
namespace Go.Proofs.Ytncodoaphfeefaa
open Go.RowKit
set_option linter.unusedVariables false
set_option maxRecDepth 100000
set_option linter.unusedSimpArgs false


/-- A list of numbers, as cells hold it. -/
def numV (xs : List Int) (i : Nat) : Value := .int .i64 (xs.getD i 0)

theorem sum_take_succ (xs : List Int) (k : Nat) (h : k < xs.length) : (xs.take (k + 1)).sum = (xs.take k).sum + xs.getD k 0 := by
  rw [List.take_succ_eq_append_getElem h, List.sum_append]
  simp [List.getD_eq_getElem?_getD, List.getElem?_eq_getElem h]
theorem sum_abs (xs : List Int) (hr : ∀ x ∈ xs, -9223372036854775808 ≤ x ∧ x ≤ 9223372036854775807) : -(9223372036854775808 * (xs.length : Int)) ≤ xs.sum ∧ xs.sum ≤ 9223372036854775808 * (xs.length : Int) := by
  induction xs with
  | nil => simp
  | cons x xs ih =>
    have h1 := hr x (by simp)
    have h2 := ih (fun y hy => hr y (by simp [hy]))
    simp only [List.sum_cons, List.length_cons]
    omega
theorem sum_bits (xs : List Int) (hr : ∀ x ∈ xs, -9223372036854775808 ≤ x ∧ x ≤ 9223372036854775807) (hl : xs.length ≤ 1000000) : blen xs.sum.natAbs ≤ 5000 := by
  have h := sum_abs xs hr
  have h1 : xs.sum.natAbs < 2 ^ 100 := by
    have : (2 : Nat) ^ 100 = 1267650600228229401496703205376 := by decide
    rw [this]; omega
  have := blen_le.2 h1
  omega

/-- The boxes of Sum: the answer's, and out's. -/
structure SumBox (w : World) (B : Nat) (s : Bool) (a : Option Addr) (l cap : Nat) : Prop where
  r0 : w.cell? ⟨B, 0, none⟩ = some (.bool false)
  r1 : w.cell? ⟨B, 1, none⟩ = some (.slice none 0 0)
  f0 : w.frozen? ⟨B, 0, none⟩ = false
  f1 : w.frozen? ⟨B, 1, none⟩ = false
  c0 : w.cell? ⟨B + 1, 0, none⟩ = some (.bool s)
  c1 : w.cell? ⟨B + 1, 1, none⟩ = some (.slice a l cap)
  g0 : w.frozen? ⟨B + 1, 0, none⟩ = false
  g1 : w.frozen? ⟨B + 1, 1, none⟩ = false
theorem SumBox.after {w w' : World} {B : Nat} {s : Bool} {a : Option Addr} {l cap : Nat} (h : SumBox w B s a l cap) (hb : Below w.heap.size w w') : SumBox w' B s a l cap :=
  ⟨below_cell hb h.r0, below_cell hb h.r1, below_frozen hb h.r0 h.f0, below_frozen hb h.r1 h.f1, below_cell hb h.c0, below_cell hb h.c1, below_frozen hb h.c0 h.g0, below_frozen hb h.c1 h.g1⟩
theorem SumBox.set {w : World} {B : Nat} {s s' : Bool} {a a' : Option Addr} {l l' cap cap' : Nat} (h : SumBox w B s a l cap) : SumBox ((w.setCell ⟨B + 1, 0, none⟩ (.bool s')).setCell ⟨B + 1, 1, none⟩ (.slice a' l' cap')) B s' a' l' cap' :=
  ⟨set_far (set_far h.r0 (by simp)) (by simp), set_far (set_far h.r1 (by simp)) (by simp), by rw [World.frozen?_setCell, World.frozen?_setCell]; exact h.f0, by rw [World.frozen?_setCell, World.frozen?_setCell]; exact h.f1,
   (World.cell?_setCell_other _ _ _ _ (by simp)).trans (World.cell?_setCell_same _ _ _ h.c0), World.cell?_setCell_same _ _ _ ((World.cell?_setCell_other _ _ _ _ (by simp)).trans h.c1), by rw [World.frozen?_setCell, World.frozen?_setCell]; exact h.g0, by rw [World.frozen?_setCell, World.frozen?_setCell]; exact h.g1⟩

set_option maxHeartbeats 1000000 in
theorem sum_big (a : Option Addr) (cap : Nat) (xs : List Int) (w : World) (hx : RowAt w a xs.length (numV xs)) (hr : ∀ x ∈ xs, -9223372036854775808 ≤ x ∧ x ≤ 9223372036854775807) (hl : xs.length ≤ 1000000) :
    Calls Try.prog 17 #[.slice a xs.length cap] w (BigEnd xs.sum w) := by
  go_enter Try.func17, Try.ntmps17
  go_wp2_with fail
  go_loopw [4] (fun i wr => ∃ k : Nat, k ≤ xs.length ∧ i = .int .i64 k ∧ (∃ s b l c, SumBox wr w.heap.size s b l c ∧ BigAt wr (xs.take k).sum s b l c ∧ ∀ x, b = some x → w.heap.size + 2 ≤ x.block) ∧ Below w.heap.size w wr ∧ w.heap.size + 2 ≤ wr.heap.size) (fun i _ => xs.length - (intOf i).toNat)
  case atStart => exact ⟨0, by omega, rfl, ⟨false, none, 0, 0, ⟨by go_simp, by go_simp, by go_simp, by go_simp, by go_simp, by go_simp, by go_simp, by go_simp⟩, ⟨by simp, by simp [blen_zero], Nat.le_refl _, by unfold maxLen; omega, RowAt.nil _ _ _⟩, fun x e => by cases e⟩, ((Below.refl _ _).alloc (Nat.le_refl _) _).alloc (by simp) _, by simp⟩
  case round =>
    obtain ⟨k, hk, rfl, ⟨s, b, l, c, hbox, hbig, hfr⟩, hbl, zr⟩ := hrel
    have HFR := Lib.hid hfr
    have HBOX := Lib.hid hbox
    obtain ⟨q0, q1, q2, q3, q4, q5, q6, q7⟩ := hbox
    clear hfr
    by_cases hlt : k < xs.length
    · obtain ⟨xb, xo, rfl, hcell⟩ := hx.after hbl (by omega)
      have hck := hcell k hlt
      unfold numV at hck
      have hxk := hr (xs.getD k 0) (by rw [List.getD_eq_getElem?_getD, List.getElem?_eq_getElem hlt]; simp)
      have i0 : (0 : Int) ≤ (k : Int) := by omega
      have i1 : (k : Int) < (xs.length : Int) := by omega
      have hb0 : blen (xs.take k).sum.natAbs ≤ 5000 := sum_bits _ (fun x hx => hr x (List.mem_of_mem_take hx)) (by rw [List.length_take]; omega)
      have hb1 : blen (xs.getD k 0).natAbs ≤ 5000 := by
        have : (xs.getD k 0).natAbs < 2 ^ 64 := by have : (2 : Nat) ^ 64 = 18446744073709551616 := by decide
                                                   rw [this]; omega
        have := blen_le.2 this; omega
      obtain ⟨y, hy⟩ : ∃ y, xs.getD k 0 = y := ⟨_, rfl⟩
      obtain ⟨z, hz⟩ : ∃ z, (xs.take k).sum = z := ⟨_, rfl⟩
      rw [hy] at hck hxk hb1
      rw [hz] at hbig hb0
      have HZ : Hid ((xs.take (k + 1)).sum = z + y) := by rw [sum_take_succ xs k hlt, hy, hz]; exact rfl
      obtain ⟨hxk1, hxk2⟩ := hxk
      clear hcell hx hy hz
      go_wp2_with fail
      go_region_with (first
        | (go_at_call 14; refine (of_big y hxk1 hxk2 _).mono ?_; rintro e w2 ⟨s2, a2, l2, cap2, rfl, hB2, hb2, hf2⟩; have c5 := below_cell hb2 q4; have c6 := below_cell hb2 q5)
        | (go_at_call 24; refine (add_big z y s s2 b a2 l l2 c cap2 _ ((hbig.after ((Below.refl _ _).drew)).after hb2) hB2 hb0 hb1).mono ?_; rintro e w3 ⟨s3, a3, l3, cap3, rfl, hB3, hb3, hf3⟩; have hbx3 := ((HBOX.out.after ((Below.refl _ _).drew)).after hb2).after hb3; have HBX := Lib.hid hbx3; obtain ⟨p0, p1, p2, p3, p4, p5, p6, p7⟩ := hbx3))
      all_goals
        have z2 := hb2.size
        have z3 := hb3.size
        simp at z2
        have hg : w3.grownBy ((w3.setCell ⟨w.heap.size + 1, 0, none⟩ (.bool s3)).setCell ⟨w.heap.size + 1, 1, none⟩ (.slice a3 l3 cap3)) (some (w.heap.size + 1)) := grown_trans (grown_setCell _ _ _ _) (grown_setCell _ _ _ _)
        have hbw : Below w.heap.size w w3 := (hbl.drew.trans (hb2.mono (by simp; omega))).trans (hb3.mono (by omega))
        go_wp2_with fail
        go_roundw
        case rel => exact ⟨k + 1, by omega, by go_num, ⟨s3, a3, l3, cap3, HBX.out.set, by rw [HZ.out]; exact hB3.grown hg (fun x e => by have := hf3 x e; simp; omega), fun x e => by have := hf3 x e; omega⟩, hbw.grown hg hbw.size (fun r e => by cases e; omega), by simp [World.setCell]; omega⟩
        case measure => simp [intOf]; omega
    · obtain rfl : k = xs.length := by omega
      have HR := Lib.hid hbig.hr
      obtain ⟨e1, e2, e3, e4, e5⟩ := hbig
      rw [List.take_of_length_le (Nat.le_refl _)] at e1 e2 e5
      have HBIG : Hid (BigAt wr xs.sum s b l c) := ⟨e1, e2, e3, e4, e5⟩
      clear e1 e2 e3 e4 e5 HR hx
      go_wp2_with fail
      refine bodyPost_ret (v := .agg #[.bool s, .slice b l c]) ?_ rfl ?_
      · simp [results, Try.results17, go_sem, q0, q1]
      · have hg : wr.grownBy ((wr.setCell ⟨w.heap.size, 0, none⟩ (.bool s)).setCell ⟨w.heap.size, 1, none⟩ (.slice b l c)) (some w.heap.size) := grown_trans (grown_setCell _ _ _ _) (grown_setCell _ _ _ _)
        exact ⟨s, b, l, c, rfl, HBIG.out.grown hg (fun x e => by have := HFR.out x e; simp; omega), hbl.grown hg hbl.size (fun r e => by cases e; omega), fun x e => by have := HFR.out x e; omega⟩

/-- What Int answers. -/
def intE (z : Int) : Value := if -9223372036854775808 ≤ z ∧ z ≤ 9223372036854775807 then .tuple #[.int .i64 z, .bool true] else .tuple #[.int .i64 0, .bool false]

end Go.Proofs.Ytncodoaphfeefaa
