/- An agenda apart from other blocks: the calls' contracts once more. -/
import Derived.Test.YtgcncnmkfpfccaaAgS
namespace Go.Proofs.Ytgcncnmkfpfccaa
open Go.RowKit Go.Sort Go.Shelf
set_option linter.unusedVariables false
set_option linter.unusedSimpArgs false

structure AgX (w : World) (base B bm : Nat) (S : List It) (N : Int) (X : Nat → Prop) : Prop where
  ex : ∃ sv, AgAt w base B bm sv S N ∧ ∀ b, X b → b < w.heap.size ∧ b ∉ PAt.bs B bm sv
/-- The blocks of X are as they were. -/
def KeptX (X : Nat → Prop) (w w' : World) : Prop := ∃ bs, Turn bs w w' ∧ ∀ b ∈ bs, ¬ X b
theorem KeptX.refl (X : Nat → Prop) (w : World) : KeptX X w w := ⟨[], Turn.refl _ _, by simp⟩
theorem KeptX.trans {X : Nat → Prop} {a b c : World} (h : KeptX X a b) (k : KeptX X b c) : KeptX X a c := by
  obtain ⟨l, h1, h2⟩ := h
  obtain ⟨m, k1, k2⟩ := k
  exact ⟨l ++ m, (h1.mono (by simp +contextual)).trans (k1.mono (by simp +contextual)), fun b hb => (List.mem_append.1 hb).elim (h2 b) (k2 b)⟩
theorem KeptX.of_below {X : Nat → Prop} {w w' : World} (h : Below w.heap.size w w') : KeptX X w w' := ⟨[], Turn.of_below h, by simp⟩
theorem KeptX.recs {X : Nat → Prop} {w w' : World} {a : Option Addr} {n size : Nat} {f : Nat → List Value} (h : KeptX X w w') (hR : RowsAt w a n size f) (hX : ∀ x, a = some x → x.block < w.heap.size ∧ X x.block) : RowsAt w' a n size f := by
  obtain ⟨bs, ht, hn⟩ := h
  exact ht.rows hR (fun x hx => (hX x hx).1) (fun x hx hb => hn _ hb (hX x hx).2)
theorem KeptX.blk {X : Nat → Prop} {w w' : World} {b : Nat} {cs : Array Value} {T : TypeId} (h : KeptX X w w') (hB : Blk w b cs T) (hX : X b) : Blk w' b cs T := by
  obtain ⟨bs, ht, hn⟩ := h
  exact ht.blk hB fun hb => hn _ hb hX
theorem AgX.grow {w w' : World} {base B bm : Nat} {S : List It} {N : Int} {X Y : Nat → Prop} (h : AgX w base B bm S N X) (hb : Below w.heap.size w w') (hY : ∀ b, Y b → X b ∨ (w.heap.size ≤ b ∧ b < w'.heap.size)) : AgX w' base B bm S N Y := by
  obtain ⟨sv, hA, hX⟩ := h.ex
  refine ⟨⟨sv, hA.after hb, fun b hy => ?_⟩⟩
  have hz := hb.size
  rcases hY b hy with hx | ⟨h1, h2⟩
  · exact ⟨by have := (hX b hx).1; omega, (hX b hx).2⟩
  · exact ⟨h2, fun hm => by have := (hA.bs_lt b hm).2; omega⟩
theorem AgX.after {w w' : World} {base B bm : Nat} {S : List It} {N : Int} {X : Nat → Prop} (h : AgX w base B bm S N X) (hb : Below w.heap.size w w') : AgX w' base B bm S N X := h.grow hb fun _ => .inl
theorem AgX.lt {w : World} {base B bm : Nat} {S : List It} {N : Int} {X : Nat → Prop} (h : AgX w base B bm S N X) {b : Nat} (hb : X b) : b < w.heap.size := by
  obtain ⟨sv, hA, hX⟩ := h.ex
  exact (hX b hb).1
theorem AgX.ra {w : World} {base B bm : Nat} {S : List It} {N : Int} {X : Nat → Prop} (h : AgX w base B bm S N X) : Rising It.ky S := by
  obtain ⟨sv, hA, hX⟩ := h.ex
  exact hA.ra
theorem AgX.no {w : World} {base B bm : Nat} {S : List It} {N : Int} {X : Nat → Prop} (h : AgX w base B bm S N X) : ∀ x ∈ S, 0 ≤ x.n ∧ x.n < N := by
  obtain ⟨sv, hA, hX⟩ := h.ex
  exact hA.no
theorem AgX.nos {w : World} {base B bm : Nat} {S : List It} {N : Int} {X : Nat → Prop} (h : AgX w base B bm S N X) : Nos S := by
  obtain ⟨sv, hA, hX⟩ := h.ex
  exact hA.nos
/-- What a call leaves. -/
def EndX (w : World) (base B bm : Nat) (S : List It) (N : Int) (X : Nat → Prop) (w' : World) : Prop := AgX w' base B bm S N X ∧ KeptX X w w' ∧ Below base w w'
theorem AgEnd.x {w w' : World} {base B bm : Nat} {sv : Value} {S S' : List It} {N N' : Int} {X : Nat → Prop} (hA : AgAt w base B bm sv S N) (hX : ∀ b, X b → b < w.heap.size ∧ b ∉ PAt.bs B bm sv) (hb : base ≤ w.heap.size) (hE : AgEnd w base B bm sv S' N' w') : EndX w base B bm S' N' X w' := by
  refine ⟨?_, ⟨_, hE.turn, fun b h1 h2 => (hX b h2).2 h1⟩, hE.below hA (Nat.le_refl _) hb⟩
  have hz := hE.turn.size
  obtain ⟨sv', hA', hs⟩ := hE.ex
  refine ⟨⟨sv', hA', fun b hx => ⟨by have := (hX b hx).1; omega, fun hm => ?_⟩⟩⟩
  rcases bs_sub hs b hm with h1 | h1
  · exact (hX b hx).2 h1
  · have := (hX b hx).1
    omega
theorem dropS_len (S : List It) (no : Int) : (dropS S no).length ≤ S.length := List.length_filter_le _ _
theorem takeS_len (S : List It) (y : Int) : (takeS S y).length ≤ S.length := by
  unfold takeS
  split
  · simp
  · split <;> simp
theorem moveS_len (S : List It) (no d : Int) : (moveS S no d).length ≤ S.length + 1 := by
  unfold moveS
  split
  · omega
  · split
    · have h1 := putK_len (ky := It.ky) (dropS S no) ⟨d, It.n ‹It›, It.t ‹It›⟩
      have h2 := dropS_len S no
      omega
    · omega
theorem opS_len (S : List It) (N a d n : Int) : (opS S N a d n).length ≤ S.length + 1 := by
  unfold opS
  have h1 := takeS_len S d
  have h2 := dropS_len S n
  have h3 := moveS_len S n d
  have h4 := putK_len (ky := It.ky) S ⟨d, N, n⟩
  split
  · split <;> omega
  · split
    · omega
    · split <;> omega
theorem opN_le (N a d : Int) : opN N a d ≤ N + 1 := by
  unfold opN
  split <;> omega

theorem does_x {base B bm : Nat} {S : List It} {N : Int} {X : Nat → Prop} (a d n : Int) (hno : (Lit.int .i64 n).wf = true) (hN : N ≤ 900000) (hl : S.length ≤ 80000) {w : World} (hbase : base ≤ w.heap.size) (h : AgX w base B bm S N X) :
    Calls Try.prog 11 #[.pointer (some ⟨B, 0, none⟩), .agg #[.int .i64 a, .int .i64 d, .int .i64 n]] w fun e w' => e = .returned (opR (opV S N a d n)) ∧ EndX w base B bm (opS S N a d n) (opN N a d) X w' := by
  obtain ⟨sv, hA, hX⟩ := h.ex
  exact (does_ok base B bm sv S N a d n hno hN hl w hbase hA).mono fun e w' hE => ⟨hE.1, AgEnd.x hA hX hbase hE.2⟩
theorem take_x {base B bm : Nat} {S : List It} {N : Int} {X : Nat → Prop} (y : Int) (hl : S.length ≤ 90000) {w : World} (hbase : base ≤ w.heap.size) (h : AgX w base B bm S N X) :
    Calls Try.prog 20 #[.pointer (some ⟨B, 0, none⟩), .int .i64 y] w fun e w' => e = .returned (itV (takeO S y)) ∧ EndX w base B bm (takeS S y) N X w' := by
  obtain ⟨sv, hA, hX⟩ := h.ex
  exact (take_ok base B bm sv S N y hl w hA).mono fun e w' hE => ⟨hE.1, AgEnd.x hA hX hbase hE.2⟩
theorem move_x {base B bm : Nat} {S : List It} {N : Int} {X : Nat → Prop} (no d : Int) (hno : (Lit.int .i64 no).wf = true) (hl : S.length ≤ 90000) {w : World} (hbase : base ≤ w.heap.size) (h : AgX w base B bm S N X) :
    Calls Try.prog 21 #[.pointer (some ⟨B, 0, none⟩), .int .i64 no, .int .i64 d] w fun e w' => e = .returned (.int .i64 (moveE S no d)) ∧ EndX w base B bm (moveS S no d) N X w' := by
  obtain ⟨sv, hA, hX⟩ := h.ex
  exact (move_ok base B bm sv S N no d hno hl w hA).mono fun e w' hE => ⟨hE.1, AgEnd.x hA hX hbase hE.2⟩
theorem next_x {base B bm : Nat} {S : List It} {N : Int} {X : Nat → Prop} {w : World} (h : AgX w base B bm S N X) : Calls Try.prog 19 #[.pointer (some ⟨B, 0, none⟩)] w fun e w' => e = .returned (nextV S) ∧ Below w.heap.size w w' := by
  obtain ⟨sv, hA, hX⟩ := h.ex
  exact next_ok base B bm sv S N w hA
theorem len_x {base B bm : Nat} {S : List It} {N : Int} {X : Nat → Prop} {w : World} (h : AgX w base B bm S N X) : Calls Try.prog 16 #[.pointer (some ⟨B, 0, none⟩)] w fun e w' => e = .returned (.int .i64 S.length) ∧ w' = w := by
  obtain ⟨sv, hA, hX⟩ := h.ex
  exact alen_ok base B bm sv S N w hA
theorem items_x {base B bm : Nat} {S : List It} {N : Int} {X : Nat → Prop} {w : World} (h : AgX w base B bm S N X) (hl : S.length ≤ 300) : Calls Try.prog 18 #[.pointer (some ⟨B, 0, none⟩)] w (RecI w S) := by
  obtain ⟨sv, hA, hX⟩ := h.ex
  exact items_ok base B bm sv S N w hA hl
theorem new_x (w : World) : Calls Try.prog 9 #[] w fun e w' => ∃ B bm, e = .returned (.pointer (some ⟨B, 0, none⟩)) ∧ AgX w' w.heap.size B bm [] 0 (fun _ => False) ∧ Below w.heap.size w w' :=
  (anew_ok w.heap.size w (Nat.le_refl _)).mono fun e w' ⟨B, bm, h1, h2, h3, _, _⟩ => ⟨B, bm, h1, ⟨⟨_, h2, fun b hb => hb.elim⟩⟩, h3⟩

end Go.Proofs.Ytgcncnmkfpfccaa
