/- The document's agenda in memory; Take. -/
import Derived.Test.YtgcncnmkfpfccaaAgRa
namespace Go.Proofs.Ytgcncnmkfpfccaa
open Go.RowKit Go.Sort Go.Shelf
set_option linter.unusedVariables false
set_option linter.unusedSimpArgs false

/-- The document's agenda in memory. -/
structure RgAt (w : World) (R : Nat) (a : Option Addr) (cap : Nat) (S : List It) (N : Int) : Prop where
  blk : Blk w R #[.slice a S.length cap, .int .i64 N] 29
  sl : SlAt w 3 encI a cap S
  ne : ∀ x, a = some x → x.block ≠ R
theorem RgAt.turn {w w' : World} {R cap : Nat} {a : Option Addr} {S : List It} {N : Int} {bs : List Nat} (h : RgAt w R a cap S N) (ht : Turn bs w w') (hR : R ∉ bs) (ha : ∀ x, a = some x → x.block ∉ bs) : RgAt w' R a cap S N := ⟨ht.blk h.blk hR, h.sl.turn ht ha, h.ne⟩
theorem RgAt.after {w w' : World} {R cap : Nat} {a : Option Addr} {S : List It} {N : Int} (h : RgAt w R a cap S N) (hb : Below w.heap.size w w') : RgAt w' R a cap S N := h.turn (bs := []) (Turn.of_below hb) (by simp) (by simp)
/-- What a call of the document's leaves. -/
def RgEnd (w : World) (R : Nat) (a : Option Addr) (S : List It) (N : Int) (w' : World) : Prop :=
  ∃ a' cap', RgAt w' R a' cap' S N ∧ Turn [R] w w' ∧ ∀ x, a' = some x → (∃ y, a = some y ∧ y.block = x.block) ∨ w.heap.size ≤ x.block
theorem Turn.cell1 (w : World) (R j : Nat) (v : Value) : Turn [R] w (w.setCell ⟨R, j, none⟩ v) := Turn.of_grown (grown_setCell _ _ _ _) (by simp)
theorem Turn.then {bs : List Nat} {w w1 w2 : World} (h : Turn bs w w1) (hb : Below w1.heap.size w1 w2) : Turn bs w w2 := h.trans (Turn.of_below hb)

theorem rg_set {w w' : World} {R cap cap' : Nat} {a a' : Option Addr} {S S' : List It} {N N' : Int} (h : RgAt w R a cap S N) (hs : SlAt w' 3 encI a' cap' S') (hne : ∀ x, a' = some x → x.block ≠ R) (hb : Turn [R] w w') (hk : Blk w' R #[.slice a' S'.length cap', .int .i64 N'] 29) (ho : ∀ x, a' = some x → (∃ y, a = some y ∧ y.block = x.block) ∨ w.heap.size ≤ x.block) : RgEnd w R a S' N' w' :=
  ⟨a', cap', ⟨hk, hs, hne⟩, hb, ho⟩

def RTakeEnd (w : World) (R : Nat) (a : Option Addr) (S : List It) (N y : Int) (e : Ending) (w' : World) : Prop := e = .returned (itV (takeO S y)) ∧ RgEnd w R a (takeS S y) N w'
set_option maxHeartbeats 4000000 in
set_option maxRecDepth 100000 in
theorem rtake_ok (R : Nat) (a : Option Addr) (cap : Nat) (S : List It) (N y : Int) (w : World) (h : RgAt w R a cap S N) (hl : S.length ≤ 1000) :
    Calls Try.prog 13 #[.pointer (some ⟨R, 0, none⟩), .int .i64 y] w (RTakeEnd w R a S N y) := by
  obtain ⟨w0, hw0⟩ : ∃ W, w.alloc (.cells #[.int .i64 0, .int .i64 0, .int .i64 0] 37) = W := ⟨_, rfl⟩
  have hb0 : Below w.heap.size w w0 := by rw [← hw0]; exact (Below.refl _ _).alloc (Nat.le_refl _) _
  have z0 : w0.heap.size = w.heap.size + 1 := by rw [← hw0]; simp
  have kr : Blk w0 w.heap.size #[.int .i64 0, .int .i64 0, .int .i64 0] 37 := by rw [← hw0]; exact Blk.new _ _ _
  have h0 := h.after hb0
  have c0 : w0.cell? ⟨R, 0, none⟩ = some (.slice a S.length cap) := h0.blk.cell 0 rfl
  have hRl : R < w.heap.size := h.blk.lt
  cases S with
  | nil =>
    have HF : Hid (RTakeEnd w R a [] N y (.returned (itV (takeO [] y))) w0) := ⟨rfl, a, cap, h0, Turn.of_below hb0, fun x e => .inl ⟨x, e, rfl⟩⟩
    have r0 : w0.cell? ⟨w.heap.size, 0, none⟩ = some (.int .i64 0) := kr.cell 0 rfl
    rw [← hw0] at c0
    have HW0 := Lib.hid hw0
    clear h h0 hb0 hw0 kr
    go_enter Try.func13, Try.ntmps13
    go_wp2_with fail
    refine bodyPost_ret (v := .tuple #[.agg #[.int .i64 0, .int .i64 0, .int .i64 0], .bool false]) (by simp [results, Try.results13, go_sem]) rfl ?_
    rw [HW0.out]
    exact HF.out
  | cons x S =>
    have hsl := h0.sl
    rcases hsl.sh with ⟨_, hno, _⟩ | ⟨b, o, rfl, hbl⟩
    · cases hno
    obtain ⟨xd, xn, xt⟩ := x
    have p0 : w0.cell? ⟨b, o, none⟩ = some (.int .i64 xd) := by
      have := RecsAt.cell hsl.recs rfl (i := 0) (by simp) rfl (j := 0) (v := .int .i64 xd) rfl
      simpa using this
    have p1 : w0.cell? ⟨b, o + 1, none⟩ = some (.int .i64 xn) := by
      have := RecsAt.cell hsl.recs rfl (i := 0) (by simp) rfl (j := 1) (v := .int .i64 xn) rfl
      simpa using this
    have p2 : w0.cell? ⟨b, o + 2, none⟩ = some (.int .i64 xt) := by
      have := RecsAt.cell hsl.recs rfl (i := 0) (by simp) rfl (j := 2) (v := .int .i64 xt) rfl
      simpa using this
    by_cases hd : y < xd
    · have d1 : decide (y < xd) = true := decide_eq_true hd
      have HF : Hid (RTakeEnd w R (some ⟨b, o, none⟩) (⟨xd, xn, xt⟩ :: S) N y (.returned (.tuple #[.agg #[.int .i64 0, .int .i64 0, .int .i64 0], .bool false])) w0) := ⟨by unfold takeO; dsimp only; rw [if_pos hd]; rfl, some ⟨b, o, none⟩, cap, by unfold takeS; dsimp only; rw [if_pos hd]; exact h0, Turn.of_below hb0, fun x e => .inl ⟨x, e, rfl⟩⟩
      rw [← hw0] at c0 p0 p1 p2
      have HW0 := Lib.hid hw0
      clear h h0 hb0 hw0 kr hsl hd
      go_enter Try.func13, Try.ntmps13
      go_wp2_with fail
      refine bodyPost_ret (v := .tuple #[.agg #[.int .i64 0, .int .i64 0, .int .i64 0], .bool false]) (by simp [results, Try.results13, go_sem]) rfl ?_
      rw [HW0.out]
      exact HF.out
    · have d1 : decide (y < xd) = false := decide_eq_false hd
      obtain ⟨w1, hw1⟩ : ∃ W, w0.alloc (.cells #[.int .i64 xd, .int .i64 xn, .int .i64 xt] 37) = W := ⟨_, rfl⟩
      have hb1 : Below w0.heap.size w0 w1 := by rw [← hw1]; exact (Below.refl _ _).alloc (Nat.le_refl _) _
      have kx : Blk w1 w0.heap.size #[.int .i64 xd, .int .i64 xn, .int .i64 xt] 37 := by rw [← hw1]; exact Blk.new _ _ _
      have h1 := h0.after hb1
      have c1 : w1.cell? ⟨R, 0, none⟩ = some (.slice (some ⟨b, o, none⟩) (S.length + 1) cap) := h1.blk.cell 0 rfl
      have f1 := h1.blk.free 0
      have hle := hsl.le
      have hmx := hsl.max
      simp only [List.length_cons] at hle
      have HEnd : Hid (∀ a' cap' o1 o2, SlAt w 3 encI a' cap' S → (∀ x, a' = some x → x.block = b) → RTakeEnd w R (some ⟨b, o, none⟩) (⟨xd, xn, xt⟩ :: S) N y (.returned (.tuple #[.agg #[.int .i64 xd, .int .i64 xn, .int .i64 xt], .bool true])) (((w.setCell ⟨R, 0, none⟩ (.slice a' S.length cap')).alloc o1).alloc o2)) := fun a' cap' o1 o2 hs hx => by
        have hbS : Below (w.setCell ⟨R, 0, none⟩ (.slice a' S.length cap')).heap.size (w.setCell ⟨R, 0, none⟩ (.slice a' S.length cap')) (((w.setCell ⟨R, 0, none⟩ (.slice a' S.length cap')).alloc o1).alloc o2) := ((Below.refl _ _).alloc (Nat.le_refl _) _).alloc (by simp) _
        have ht : Turn [R] w (((w.setCell ⟨R, 0, none⟩ (.slice a' S.length cap')).alloc o1).alloc o2) := (Turn.cell1 w R 0 _).then hbS
        have hne := h.ne
        refine ⟨by unfold takeO; dsimp only; rw [if_neg hd]; rfl, ?_⟩
        unfold takeS
        dsimp only
        rw [if_neg hd]
        exact rg_set h (hs.turn ht (fun x e => by rw [List.mem_singleton, hx x e]; exact hne ⟨b, o, none⟩ rfl)) (fun x e => by rw [hx x e]; exact hne ⟨b, o, none⟩ rfl) ht ((h.blk.set 0 _).after hbS) (fun x e => .inl ⟨_, rfl, (hx x e).symm⟩)
      have HSl1 : Hid (SlAt w 3 encI (some ⟨b, o + 3, none⟩) (cap - 1) S) := by
        have hd1 := RecsAt.dropR h.sl.recs 1
        rw [Nat.one_mul, List.drop_succ_cons, List.drop_zero] at hd1
        exact ⟨hd1, by omega, by omega, .inr ⟨b, o + 3, rfl, h.sl.lt ⟨b, o, none⟩ rfl⟩⟩
      have HSl2 : Hid (1 = cap → SlAt w 3 encI (some ⟨b, o, none⟩) 0 S) := fun e => by
        obtain rfl : S = [] := List.length_eq_zero_iff.1 (by omega)
        exact ⟨RowsAt.nil _ _ _ _, Nat.le_refl _, Nat.zero_le _, .inr ⟨b, o, rfl, h.sl.lt ⟨b, o, none⟩ rfl⟩⟩
      go_enter Try.func13, Try.ntmps13
      rw [← hw1, ← hw0] at c1 f1
      rw [← hw0] at c0 p0 p1 p2
      have HW0 := Lib.hid hw0
      have HW1 := Lib.hid hw1
      clear hw0 hw1 kr kx h h0 h1 hb0 hb1 hsl hd HW0 HW1
      by_cases hc1 : 1 = cap
      · have HE := Lib.hid (HEnd.out (some ⟨b, o, none⟩) 0 (.cells #[.int .i64 xd, .int .i64 xn, .int .i64 xt] 37) (.cells #[.int .i64 xd, .int .i64 xn, .int .i64 xt] 37) (HSl2.out hc1) (fun x e => by cases e; rfl))
        clear HEnd HSl1 HSl2
        obtain rfl : S = [] := List.length_eq_zero_iff.1 (by omega)
        subst hc1
        go_wp2_with fail
        all_goals first | (exfalso; omega) | (refine bodyPost_ret (v := .tuple #[.agg #[.int .i64 xd, .int .i64 xn, .int .i64 xt], .bool true]) (by simp [results, Try.results13, go_sem]) rfl ?_; exact HE.out)
      · have HE := Lib.hid (HEnd.out (some ⟨b, o + 3, none⟩) (cap - 1) (.cells #[.int .i64 xd, .int .i64 xn, .int .i64 xt] 37) (.cells #[.int .i64 xd, .int .i64 xn, .int .i64 xt] 37) HSl1.out (fun x e => by cases e; rfl))
        clear HEnd HSl1 HSl2
        go_wp2_with fail
        all_goals first | (exfalso; omega) | (refine bodyPost_ret (v := .tuple #[.agg #[.int .i64 xd, .int .i64 xn, .int .i64 xt], .bool true]) (by simp [results, Try.results13, go_sem]) rfl ?_; exact HE.out)

end Go.Proofs.Ytgcncnmkfpfccaa
