/- The law's same; the agenda and the document's, side by side. -/
import Derived.Test.YtgcncnmkfpfccaaAgRe
namespace Go.Proofs.Ytgcncnmkfpfccaa
open Go.RowKit Go.Sort Go.Shelf
set_option linter.unusedVariables false
set_option linter.unusedSimpArgs false

set_option maxHeartbeats 4000000 in
set_option maxRecDepth 100000 in
theorem same_ok11 (a a' : Option Addr) (cap cap' : Nat) (S : List It) (w : World) (h : RecsAt w a 3 encI S) (h' : RecsAt w a' 3 encI S) (hl : S.length ≤ 1000) :
    Calls Try.prog 17 #[.slice a S.length cap, .slice a' S.length cap'] w (TrueEnd w) := by
  have H := Lib.hid h
  have H' := Lib.hid h'
  clear h h'
  go_enter Try.func17, Try.ntmps17
  go_wp2_with fail
  go_loopw [5] (fun i wr => ∃ j : Nat, j ≤ S.length ∧ i = .int .i64 j ∧ Hid (Below w.heap.size w wr)) (fun i _ => S.length - (intOf i).toNat)
  case atStart => exact ⟨0, by omega, rfl, Below.refl _ _⟩
  case round =>
    obtain ⟨j, hj, rfl, HBq⟩ := hrel
    by_cases hlt : j < S.length
    · have hx := List.getElem?_eq_getElem hlt
      obtain ⟨x, hy⟩ : ∃ x, S[j] = x := ⟨_, rfl⟩
      rw [hy] at hx
      have hR1 := RowsAt.after H.out HBq.out
      have hR2 := RowsAt.after H'.out HBq.out
      obtain ⟨b, o, rfl, _⟩ := hR1 (by omega)
      obtain ⟨b', o', rfl, _⟩ := hR2 (by omega)
      obtain ⟨xd, xn, xt⟩ := x
      have p0 : wr.cell? ⟨b, o + j * 3, none⟩ = some (.int .i64 xd) := RecsAt.cell hR1 rfl hlt hx (j := 0) rfl
      have p1 : wr.cell? ⟨b, o + j * 3 + 1, none⟩ = some (.int .i64 xn) := RecsAt.cell hR1 rfl hlt hx (j := 1) rfl
      have p2 : wr.cell? ⟨b, o + j * 3 + 2, none⟩ = some (.int .i64 xt) := RecsAt.cell hR1 rfl hlt hx (j := 2) rfl
      have q0 : wr.cell? ⟨b', o' + j * 3, none⟩ = some (.int .i64 xd) := RecsAt.cell hR2 rfl hlt hx (j := 0) rfl
      have q1 : wr.cell? ⟨b', o' + j * 3 + 1, none⟩ = some (.int .i64 xn) := RecsAt.cell hR2 rfl hlt hx (j := 1) rfl
      have q2 : wr.cell? ⟨b', o' + j * 3 + 2, none⟩ = some (.int .i64 xt) := RecsAt.cell hR2 rfl hlt hx (j := 2) rfl
      have heq := fun w => item_neq xd xn xt xd xn xt w
      rw [decide_eq_true rfl] at heq
      have i1 : (0 : Int) ≤ (j : Int) := by omega
      have i2 : (j : Int) < (S.length : Int) := by omega
      clear hx hy hR1 hR2
      go_wp2_with (go_quiet (fail))
      go_roundw
      case rel => exact ⟨j + 1, by omega, by go_num, HBq.out.trans (below_draws _ _)⟩
      case measure => simp [intOf]; omega
    · obtain rfl : j = S.length := by omega
      go_wp2_with fail
      go_ret
      exact ⟨rfl, HBq.out⟩

/-- The blocks of the document's agenda. -/
def RBs (R : Nat) (a : Option Addr) (b : Nat) : Prop := b = R ∨ ∃ x, a = some x ∧ x.block = b
/-- The agenda has S', the document's S; apart, and apart from the blocks of Y. -/
def HalfAt (w : World) (base B bm R : Nat) (S : List It) (N : Int) (S' : List It) (N' : Int) (Y : Nat → Prop) : Prop :=
  ∃ a cap, AgX w base B bm S' N' (fun b => RBs R a b ∨ Y b) ∧ RgAt w R a cap S N ∧ base ≤ R ∧ ∀ b, Y b → b ≠ R ∧ ∀ x, a = some x → x.block ≠ b
theorem AgX.ref {w w' : World} {base B bm : Nat} {S : List It} {N : Int} {X Y : Nat → Prop} {bs : List Nat} (h : AgX w base B bm S N X) (ht : Turn bs w w') (hb : ∀ b ∈ bs, X b) (hY : ∀ b, Y b → X b ∨ (w.heap.size ≤ b ∧ b < w'.heap.size)) : AgX w' base B bm S N Y := by
  obtain ⟨sv, hA, hX⟩ := h.ex
  refine ⟨sv, hA.turn ht (fun b hm hbs => (hX b (hb b hbs)).2 hm), fun b hy => ?_⟩
  rcases hY b hy with hx | ⟨g1, g2⟩
  · exact ⟨by have := (hX b hx).1; have := ht.size; omega, (hX b hx).2⟩
  · exact ⟨g2, fun hm => by have := (hA.bs_lt b hm).2; omega⟩
theorem HalfAt.lt {w : World} {base B bm R : Nat} {S S' : List It} {N N' : Int} {Y : Nat → Prop} (h : HalfAt w base B bm R S N S' N' Y) : R < w.heap.size := by
  obtain ⟨a, cap, _, h2, _⟩ := h
  exact h2.blk.lt
theorem HalfAt.grow {w w' : World} {base B bm R : Nat} {S S' : List It} {N N' : Int} {Y Z : Nat → Prop} (h : HalfAt w base B bm R S N S' N' Y) (hb : Below w.heap.size w w') (hZ : ∀ b, Z b → Y b ∨ (w.heap.size ≤ b ∧ b < w'.heap.size)) : HalfAt w' base B bm R S N S' N' Z := by
  obtain ⟨a, cap, h1, h2, h3, h4⟩ := h
  refine ⟨a, cap, h1.grow hb (fun b hb' => hb'.elim (fun h => .inl (.inl h)) fun h => (hZ b h).imp .inr id), h2.after hb, h3, fun b hz => ?_⟩
  rcases hZ b hz with hy | ⟨g1, g2⟩
  · exact h4 b hy
  · exact ⟨by have := h2.blk.lt; omega, fun x hx => by have := h2.sl.lt x hx; omega⟩
theorem HalfAt.after {w w' : World} {base B bm R : Nat} {S S' : List It} {N N' : Int} {Y : Nat → Prop} (h : HalfAt w base B bm R S N S' N' Y) (hb : Below w.heap.size w w') : HalfAt w' base B bm R S N S' N' Y := h.grow hb fun _ => .inl
theorem HalfAt.store {w : World} {base B bm R : Nat} {S S' : List It} {N N' : Int} {Y : Nat → Prop} (h : HalfAt w base B bm R S N S' N' Y) {b i : Nat} (hY : Y b) (v : Value) : HalfAt (w.setCell ⟨b, i, none⟩ v) base B bm R S N S' N' Y := by
  obtain ⟨a, cap, h1, h2, h3, h4⟩ := h
  have ht := Turn.cell1 w b i v
  exact ⟨a, cap, h1.store (.inr hY) v, h2.turn ht (by rw [List.mem_singleton]; exact (h4 b hY).1.symm) (fun x hx => by rw [List.mem_singleton]; exact (h4 b hY).2 x hx), h3, h4⟩
theorem HalfAt.does {w : World} {base B bm R : Nat} {S : List It} {N : Int} {Y : Nat → Prop} (a d n : Int) (hno : (Lit.int .i64 n).wf = true) (hN : N ≤ 900000) (hl : S.length ≤ 80000) (hbase : base ≤ w.heap.size) (h : HalfAt w base B bm R S N S N Y) :
    Calls Try.prog 11 #[.pointer (some ⟨B, 0, none⟩), .agg #[.int .i64 a, .int .i64 d, .int .i64 n]] w fun e w' => e = .returned (opR (opV S N a d n)) ∧ HalfAt w' base B bm R S N (opS S N a d n) (opN N a d) Y ∧ Below base w w' := by
  obtain ⟨a0, cap, h1, h2, h3, h4⟩ := h
  refine (does_x a d n hno hN hl hbase h1).mono ?_
  rintro e w' ⟨he, hA, hk, hb⟩
  obtain ⟨bs, ht, hn⟩ := hk
  exact ⟨he, ⟨a0, cap, hA, h2.turn ht (fun hm => hn R hm (.inl (.inl rfl))) (fun x hx hm => hn _ hm (.inl (.inr ⟨x, hx, rfl⟩))), h3, h4⟩, hb⟩
theorem HalfAt.refc {w : World} {base B bm R : Nat} {S S' S2 : List It} {N N' N2 : Int} {Y : Nat → Prop} (hbase : base ≤ w.heap.size) (h : HalfAt w base B bm R S N S' N' Y) {f : FuncId} {args : Array Value} {v : Value}
    (hC : ∀ a cap, RgAt w R a cap S N → Calls Try.prog f args w fun e w' => e = .returned v ∧ RgEnd w R a S2 N2 w') : Calls Try.prog f args w fun e w' => e = .returned v ∧ HalfAt w' base B bm R S2 N2 S' N' Y ∧ Turn [R] w w' ∧ Below base w w' := by
  obtain ⟨a0, cap, h1, h2, h3, h4⟩ := h
  refine (hC a0 cap h2).mono ?_
  rintro e w' ⟨he, a1, cap1, hR, ht, ho⟩
  refine ⟨he, ⟨a1, cap1, h1.ref ht (fun b hb => .inl (.inl (List.mem_singleton.1 hb))) (fun b hY => ?_), hR, h3, fun b hy => ⟨(h4 b hy).1, fun x hx => ?_⟩⟩, ht, ht.below hbase (fun b hb => by rw [List.mem_singleton.1 hb]; exact h3)⟩
  · rcases hY with (rfl | ⟨x, hx, rfl⟩) | hy
    · exact .inl (.inl (.inl rfl))
    · rcases ho x hx with ⟨y, hy, e⟩ | hge
      · exact .inl (.inl (.inr ⟨y, hy, e⟩))
      · exact .inr ⟨hge, hR.sl.lt x hx⟩
    · exact .inl (.inr hy)
  · rcases ho x hx with ⟨y, hyy, e⟩ | hge
    · rw [← e]; exact (h4 b hy).2 y hyy
    · have := h1.lt (b := b) (.inr hy); omega

theorem put_half {w : World} {base B bm R : Nat} {S S' : List It} {N N' : Int} {Y : Nat → Prop} (d n : Int) (hbase : base ≤ w.heap.size) (h : HalfAt w base B bm R S N S' N' Y) (hl : S.length ≤ 1000) (hN0 : 0 ≤ N) (hN : N ≤ 900000) (hno : ∀ z ∈ S, z.n < N) :
    Calls Try.prog 12 #[.pointer (some ⟨R, 0, none⟩), .int .i64 d, .int .i64 n] w fun e w' => e = .returned (.tuple #[.int .i64 (opV S N 0 d n).1.n, .int .i64 (opV S N 0 d n).2]) ∧ HalfAt w' base B bm R (opS S N 0 d n) (opN N 0 d) S' N' Y ∧ Turn [R] w w' ∧ Below base w w' := by
  refine h.refc hbase fun a cap hR => (rput_ok R a cap S N d n w hR hl hN0 hN hno).mono fun e w' hE => ?_
  cases hd : dayB d with
  | true =>
    obtain ⟨h1, h2⟩ := hE.1 hd
    refine ⟨by rw [h1]; simp [opV, hd], ?_⟩
    simpa [opS, opN, hd] using h2
  | false =>
    obtain ⟨h1, rfl⟩ := hE.2 hd
    refine ⟨by rw [h1]; simp [opV, hd], ?_⟩
    have : RgEnd w' R a S N w' := ⟨a, cap, hR, Turn.refl _ _, fun x e => .inl ⟨x, e, rfl⟩⟩
    simpa [opS, opN, hd] using this
theorem put_shape (S : List It) (N d n : Int) : (opV S N 0 d n).1.d = 0 ∧ (opV S N 0 d n).1.t = 0 := by
  cases hd : dayB d <;> simp [opV, hd]
theorem take_half {w : World} {base B bm R : Nat} {S S' : List It} {N N' : Int} {Y : Nat → Prop} (d n : Int) (hbase : base ≤ w.heap.size) (h : HalfAt w base B bm R S N S' N' Y) (hl : S.length ≤ 1000) :
    Calls Try.prog 13 #[.pointer (some ⟨R, 0, none⟩), .int .i64 d] w fun e w' => e = .returned (itV (takeO S d)) ∧ HalfAt w' base B bm R (opS S N 1 d n) (opN N 1 d) S' N' Y ∧ Turn [R] w w' ∧ Below base w w' := by
  refine h.refc hbase fun a cap hR => (rtake_ok R a cap S N d w hR hl).mono fun e w' hE => ?_
  exact ⟨hE.1, by simpa [opS, opN] using hE.2⟩
theorem drop_half {w : World} {base B bm R : Nat} {S S' : List It} {N N' : Int} {Y : Nat → Prop} (d n : Int) (hbase : base ≤ w.heap.size) (h : HalfAt w base B bm R S N S' N' Y) (hl : S.length ≤ 1000) (hn : Nos S) :
    Calls Try.prog 14 #[.pointer (some ⟨R, 0, none⟩), .int .i64 n] w fun e w' => e = .returned (opR (opV S N 2 d n)) ∧ HalfAt w' base B bm R (opS S N 2 d n) (opN N 2 d) S' N' Y ∧ Turn [R] w w' ∧ Below base w w' := by
  refine h.refc hbase fun a cap hR => (rdrop_ok R a cap S N n w hR hl hn).mono fun e w' hE => ?_
  refine ⟨?_, by simpa [opS, opN] using hE.2⟩
  rw [hE.1]
  simp only [opV, drV]
  rfl
theorem move_half {w : World} {base B bm R : Nat} {S S' : List It} {N N' : Int} {Y : Nat → Prop} (a d n : Int) (h0 : a ≠ 0) (h1 : a ≠ 1) (h2 : a ≠ 2) (hbase : base ≤ w.heap.size) (h : HalfAt w base B bm R S N S' N' Y) (hl : S.length ≤ 1000) (hn : Nos S) (hr : Rising It.ky S) :
    Calls Try.prog 15 #[.pointer (some ⟨R, 0, none⟩), .int .i64 n, .int .i64 d] w fun e w' => e = .returned (.int .i64 (moveE S n d)) ∧ HalfAt w' base B bm R (opS S N a d n) (opN N a d) S' N' Y ∧ Turn [R] w w' ∧ Below base w w' := by
  refine h.refc hbase fun a' cap hR => (rmove_ok R a' cap S N n d w hR hl hn hr).mono fun e w' hE => ?_
  exact ⟨hE.1, by simpa [opS, opN, h0, h1, h2] using hE.2⟩

end Go.Proofs.Ytgcncnmkfpfccaa
