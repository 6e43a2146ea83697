/- Two stores side by side. -/
import Derived.Test.YtkloijkfaooodaaBitO
import Derived.Test.YtkloijkfaooodaaBitM
import Derived.Test.YtkloijkfaooodaaBitL
namespace Go.Proofs.Ytkloijkfaooodaa
open Go.RowKit Go.Shelf
set_option linter.unusedVariables false
set_option linter.unusedSimpArgs false

/-- Two stores that have no block in common. -/
structure Two (w : World) (base p1 bm1 : Nat) (s1 : Value) (V : List Vs) (p2 bm2 : Nat) (s2 : Value) (T : List Vs) : Prop where
  l : StAt w base p1 bm1 s1 V
  r : StAt w base p2 bm2 s2 T
  apart : ∀ b ∈ StAt.bs p1 bm1 s1, b ∉ StAt.bs p2 bm2 s2
theorem Two.swap {w : World} {base p1 bm1 p2 bm2 : Nat} {s1 s2 : Value} {V T : List Vs} (h : Two w base p1 bm1 s1 V p2 bm2 s2 T) : Two w base p2 bm2 s2 T p1 bm1 s1 V := ⟨h.r, h.l, fun b hb hc => h.apart b hc hb⟩
theorem Two.after {w w' : World} {base p1 bm1 p2 bm2 : Nat} {s1 s2 : Value} {V T : List Vs} (h : Two w base p1 bm1 s1 V p2 bm2 s2 T) (hb : Below w.heap.size w w') : Two w' base p1 bm1 s1 V p2 bm2 s2 T := ⟨h.l.after hb, h.r.after hb, h.apart⟩
theorem Two.step {w w' : World} {base p1 bm1 p2 bm2 : Nat} {s1 s2 s1' : Value} {V T V' : List Vs} (h : Two w base p1 bm1 s1 V p2 bm2 s2 T) (h1 : StAt w' base p1 bm1 s1' V') (ht : Turn (StAt.bs p1 bm1 s1) w w')
    (hg : ∀ g, s1'.ownBlock = some g → s1.ownBlock = some g ∨ w.heap.size ≤ g) : Two w' base p1 bm1 s1' V' p2 bm2 s2 T := by
  refine ⟨h1, h.r.turn ht (fun hb => h.apart _ hb (by simp [StAt.bs])) (fun hb => h.apart _ hb (by simp [StAt.bs])) (fun g hg' hb => h.apart _ hb (by unfold StAt.bs; rw [hg']; simp)) h.l.notint, fun b hb hc => ?_⟩
  unfold StAt.bs at hb
  rcases List.mem_cons.1 hb with rfl | hb
  · exact h.apart _ (by simp [StAt.bs]) hc
  · rcases List.mem_cons.1 hb with rfl | hb
    · exact h.apart _ (by simp [StAt.bs]) hc
    · rcases hg b (Option.mem_toList.1 hb) with e | e
      · exact h.apart b (by unfold StAt.bs; rw [e]; simp) hc
      · have := h.r.bs_lt b hc
        omega
theorem callE_len {V : List Vs} (v : Vs) : (callV V v).length ≤ V.length + 1 := by
  unfold callV
  split
  · unfold putV
    split <;> simp
  · omega

end Go.Proofs.Ytkloijkfaooodaa
