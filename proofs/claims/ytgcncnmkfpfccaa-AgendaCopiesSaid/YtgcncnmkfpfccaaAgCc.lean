/- Two agendas apart; a copy's contract; calls one by one. -/
import Derived.Test.YtgcncnmkfpfccaaAgCb
import Derived.Test.YtgcncnmkfpfccaaAgZ
namespace Go.Proofs.Ytgcncnmkfpfccaa
open Go.RowKit Go.Shelf Go.Sort
set_option linter.unusedVariables false
set_option linter.unusedSimpArgs false

/-- Calls, one by one: the items, and the next number. -/
def runQ (m : List Oq) (s : List It × Int) : List It × Int := m.foldl (fun s x => (opS s.1 s.2 x.a x.d x.n, opN s.2 x.a x.d)) s
theorem runQ_snoc (m : List Oq) (x : Oq) (s : List It × Int) : runQ (m ++ [x]) s = (opS (runQ m s).1 (runQ m s).2 x.a x.d x.n, opN (runQ m s).2 x.a x.d) := by simp [runQ]
theorem runQ_len (m : List Oq) : ∀ s : List It × Int, (runQ m s).1.length ≤ s.1.length + m.length ∧ (runQ m s).2 ≤ s.2 + (m.length : Int) := by
  induction m with
  | nil => intro s; simp [runQ]
  | cons x m ih =>
    intro s
    have h := ih (opS s.1 s.2 x.a x.d x.n, opN s.2 x.a x.d)
    have h1 := opS_len s.1 s.2 x.a x.d x.n
    have h2 := opN_le s.2 x.a x.d
    simp only [runQ, List.foldl_cons, List.length_cons] at h ⊢
    constructor
    · omega
    · have := h.2
      push_cast
      omega

/-- Two agendas apart, and apart from the blocks of X. -/
def Two (w : World) (b1 B1 m1 b2 B2 m2 : Nat) (S : List It) (N : Int) (S' : List It) (N' : Int) (X : Nat → Prop) : Prop :=
  ∃ v1 v2, AgAt w b1 B1 m1 v1 S N ∧ AgAt w b2 B2 m2 v2 S' N' ∧ (∀ b ∈ PAt.bs B1 m1 v1, b ∉ PAt.bs B2 m2 v2) ∧ ∀ b, X b → b < w.heap.size ∧ b ∉ PAt.bs B1 m1 v1 ∧ b ∉ PAt.bs B2 m2 v2
theorem Two.swap {w : World} {b1 B1 m1 b2 B2 m2 : Nat} {S S' : List It} {N N' : Int} {X : Nat → Prop} (h : Two w b1 B1 m1 b2 B2 m2 S N S' N' X) : Two w b2 B2 m2 b1 B1 m1 S' N' S N X := by
  obtain ⟨v1, v2, h1, h2, h3, h4⟩ := h
  exact ⟨v2, v1, h2, h1, fun b hb hm => h3 b hm hb, fun b hb => ⟨(h4 b hb).1, (h4 b hb).2.2, (h4 b hb).2.1⟩⟩
theorem Two.grow {w w' : World} {b1 B1 m1 b2 B2 m2 : Nat} {S S' : List It} {N N' : Int} {X Y : Nat → Prop} (h : Two w b1 B1 m1 b2 B2 m2 S N S' N' X) (hb : Below w.heap.size w w') (hY : ∀ b, Y b → X b ∨ (w.heap.size ≤ b ∧ b < w'.heap.size)) : Two w' b1 B1 m1 b2 B2 m2 S N S' N' Y := by
  obtain ⟨v1, v2, h1, h2, h3, h4⟩ := h
  have hz := hb.size
  refine ⟨v1, v2, h1.after hb, h2.after hb, h3, fun b hY' => ?_⟩
  rcases hY b hY' with hx | ⟨g1, g2⟩
  · exact ⟨by have := (h4 b hx).1; omega, (h4 b hx).2⟩
  · exact ⟨g2, fun hm => by have := (h1.bs_lt b hm).2; omega, fun hm => by have := (h2.bs_lt b hm).2; omega⟩
theorem Two.left {b1 B1 m1 b2 B2 m2 : Nat} {S S' : List It} {N N' : Int} {X : Nat → Prop} (a d n : Int) (hno : (Lit.int .i64 n).wf = true) (hN : N ≤ 900000) (hl : S.length ≤ 80000) {w : World} (hb : b1 ≤ w.heap.size) (h : Two w b1 B1 m1 b2 B2 m2 S N S' N' X) :
    Calls Try.prog 11 #[.pointer (some ⟨B1, 0, none⟩), .agg #[.int .i64 a, .int .i64 d, .int .i64 n]] w fun e w' => e = .returned (opR (opV S N a d n)) ∧ Two w' b1 B1 m1 b2 B2 m2 (opS S N a d n) (opN N a d) S' N' X ∧ KeptX X w w' ∧ Below b1 w w' := by
  obtain ⟨v1, v2, h1, h2, h3, h4⟩ := h
  have hx : AgX w b1 B1 m1 S N (fun b => b ∈ PAt.bs B2 m2 v2 ∨ X b) := ⟨v1, h1, fun b hb => hb.elim (fun hb => ⟨(h2.bs_lt b hb).2, fun hm => h3 b hm hb⟩) (fun hb => ⟨(h4 b hb).1, (h4 b hb).2.1⟩)⟩
  refine (does_x a d n hno hN hl hb hx).mono ?_
  rintro e w' ⟨he, hA, hk, hb'⟩
  obtain ⟨v1', hA1, hX⟩ := hA.ex
  obtain ⟨bs, ht, hn⟩ := hk
  exact ⟨he, ⟨v1', v2, hA1, h2.turn ht (fun b hb hm => hn b hm (.inl hb)), fun b hb hm => (hX b (.inl hm)).2 hb, fun b hb => ⟨(hX b (.inr hb)).1, (hX b (.inr hb)).2, (h4 b hb).2.2⟩⟩, ⟨bs, ht, fun b hb hx => hn b hb (.inr hx)⟩, hb'⟩

theorem copy_x {base B bm : Nat} {S : List It} {N : Int} {X : Nat → Prop} (hl : S.length ≤ 80000) (hN : N ≤ 900000) {w : World} (h : AgX w base B bm S N X) : Calls Try.prog 23 #[.pointer (some ⟨B, 0, none⟩)] w (CopyEnd w S N) := by
  obtain ⟨sv, hA, _⟩ := h.ex
  exact copy_ok base B bm sv S N hl hN w hA
theorem all_x {base B bm : Nat} {S : List It} {N : Int} {X : Nat → Prop} (hl : S.length ≤ 80000) {w : World} (h : AgX w base B bm S N X) : Calls Try.prog 22 #[.pointer (some ⟨B, 0, none⟩)] w (SeqIEnd w S) := by
  obtain ⟨sv, hA, _⟩ := h.ex
  exact all_ok base B bm sv S N w hA (by omega)
/-- Two copies are apart. -/
theorem two_copies {w w1 w2 : World} {B1 m1 B2 m2 : Nat} {v1 v2 : Value} {S : List It} {N : Int} (h1 : AgAt w1 w.heap.size B1 m1 v1 S N) (hb : Below w1.heap.size w1 w2) (h2 : AgAt w2 w1.heap.size B2 m2 v2 S N) : Two w2 w.heap.size B1 m1 w1.heap.size B2 m2 S N S N (fun _ => False) :=
  ⟨v1, v2, h1.after hb, h2, fun b hb1 hb2 => (by have := (h1.bs_lt b hb1).2; have := (h2.bs_lt b hb2).1; omega), fun _ h => h.elim⟩
/-- A row that a range reads is kept. -/
theorem seq_kept {X : Nat → Prop} {w4 w5 w6 : World} {lo Bs : Nat} {A : List It} (hS : SeqAt w4 w4.heap.size Bs 3 47 encI A) (hb : Below w4.heap.size w4 w5) (hk : KeptX X w5 w6) (hr : ∀ x n c, w4.cell? ⟨Bs, 0, none⟩ = some (.slice (some x) n c) → lo ≤ x.block) (hB : lo ≤ Bs) (hX : ∀ b, lo ≤ b → b < w4.heap.size → X b) : SeqAt w6 w4.heap.size Bs 3 47 encI A := by
  obtain ⟨a, cap, h1, h2, h3, h4⟩ := hS
  have hz := hb.size
  refine ⟨a, cap, hk.blk (h1.below hb h3) (hX _ hB h3), hk.recs (RowsAt.after h2 hb) (fun x hx => ⟨by have := h4 x hx; omega, hX _ (hr x A.length cap ?_) (h4 x hx)⟩), h3, h4⟩
  rw [← hx]
  exact h1.cell 0 rfl
theorem AgAt.keptX {X : Nat → Prop} {w w' : World} {base B bm : Nat} {sv : Value} {S : List It} {N : Int} (h : AgAt w base B bm sv S N) (hk : KeptX X w w') (hX : ∀ b, base ≤ b → b < w.heap.size → X b) : AgAt w' base B bm sv S N := by
  obtain ⟨bs, ht, hn⟩ := hk
  exact h.turn ht (fun b hb hm => hn b hm (hX b (h.bs_lt b hb).1 (h.bs_lt b hb).2))
theorem AgX.of_at {w : World} {base B bm : Nat} {sv : Value} {S : List It} {N : Int} (h : AgAt w base B bm sv S N) : AgX w base B bm S N (fun _ => False) := ⟨sv, h, fun _ h => h.elim⟩

end Go.Proofs.Ytgcncnmkfpfccaa
