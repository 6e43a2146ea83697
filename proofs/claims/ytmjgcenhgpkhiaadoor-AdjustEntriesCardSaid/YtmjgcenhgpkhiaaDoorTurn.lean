/- What is turned and what is kept, for some blocks. Over any program. -/
import Derived.Test.YtmjgcenhgpkhiaaDoorGen
namespace Go.Proofs.YtmjgcenhgpkhiaaDoor
open Go.RowKit
set_option linter.unusedVariables false
set_option linter.unusedSimpArgs false

/-- All that was there is as it was, but some blocks. -/
structure Turn (bs : List Nat) (w w' : World) : Prop where
  os : w'.os = w.os
  tape : w'.tape = w.tape
  output : w'.output = w.output
  size : w.heap.size ≤ w'.heap.size
  block : ∀ k, k < w.heap.size → k ∉ bs → w'.heap[k]? = w.heap[k]?
theorem Turn.refl (bs : List Nat) (w : World) : Turn bs w w := ⟨rfl, rfl, rfl, Nat.le_refl _, fun _ _ _ => rfl⟩
theorem Turn.trans {bs : List Nat} {a b c : World} (h : Turn bs a b) (k : Turn bs b c) : Turn bs a c :=
  ⟨k.os.trans h.os, k.tape.trans h.tape, k.output.trans h.output, Nat.le_trans h.size k.size, fun i hi hn => (k.block i (by have := h.size; omega) hn).trans (h.block i hi hn)⟩
theorem Turn.of_grown {w w' : World} {b : Nat} {bs : List Nat} (h : w.grownBy w' (some b)) (hb : b ∈ bs) : Turn bs w w' :=
  ⟨h.os, h.tape, h.output, h.size, fun k hk hn => h.block k hk fun e => hn (by cases e; exact hb)⟩
theorem Turn.of_below {w w' : World} {bs : List Nat} (h : Below w.heap.size w w') : Turn bs w w' := ⟨h.os, h.tape, h.output, h.size, fun k hk _ => h.block k hk⟩
theorem Turn.mono {w w' : World} {bs cs : List Nat} (h : Turn bs w w') (hb : ∀ b ∈ bs, b ∈ cs) : Turn cs w w' := ⟨h.os, h.tape, h.output, h.size, fun k hk hn => h.block k hk fun e => hn (hb k e)⟩
theorem Turn.below {w w' : World} {bs : List Nat} {N : Nat} (h : Turn bs w w') (hN : N ≤ w.heap.size) (hb : ∀ b ∈ bs, N ≤ b) : Below N w w' :=
  ⟨h.os, h.tape, h.output, h.size, fun k hk => h.block k (by omega) fun e => by have := hb k e; omega⟩
theorem Turn.blk {w w' : World} {bs : List Nat} {B : Nat} {cs : Array Value} {T : TypeId} (h : Turn bs w w') (hB : Blk w B cs T) (hn : B ∉ bs) : Blk w' B cs T := (h.block B hB.lt hn).trans hB
theorem Turn.rows {w w' : World} {bs : List Nat} {a : Option Addr} {n size : Nat} {f : Nat → List Value} (h : Turn bs w w') (hR : RowsAt w a n size f) (hlt : ∀ x, a = some x → x.block < w.heap.size) (hn : ∀ x, a = some x → x.block ∉ bs) : RowsAt w' a n size f := fun hl => by
  obtain ⟨b, o, e, hc⟩ := hR hl
  exact ⟨b, o, e, fun i hi j v hv => (World.cell?_of_block (h.block b (hlt _ e) (hn _ e))).trans (hc i hi j v hv)⟩
theorem Turn.own {w w' : World} {bs : List Nat} {base size n : Nat} {e : TypeId} {v : Value} {cs : List Value} (h : Turn bs w w') (ho : w.ownsRow base e size v n cs) (hn : ∀ g, v.ownBlock = some g → g ∉ bs) : w'.ownsRow base e size v n cs := by
  refine ⟨ho.1, ?_⟩
  rcases ho.2 with h0 | ⟨g, cap, cur, rfl, hb, hg, hr⟩
  · exact Or.inl h0
  · exact Or.inr ⟨g, cap, cur, rfl, hb, (h.block g (lt_of_block hg) (hn g rfl)).trans hg, hr⟩
/-- What a value owns lies in a block of its element's type. -/
theorem own_cells {w : World} {base size n : Nat} {e : TypeId} {v : Value} {cs : List Value} (ho : w.ownsRow base e size v n cs) {g : Nat} (hg : v.ownBlock = some g) : base ≤ g ∧ g < w.heap.size ∧ ∃ cur, w.heap[g]? = some (.cells cur e (0, 0)) := by
  rcases ho.2 with ⟨rfl, _⟩ | ⟨g', cap, cur, rfl, hb, hh, _⟩
  · simp [Value.ownBlock] at hg
  · simp only [Value.ownBlock, Option.some.injEq] at hg
    subst hg
    exact ⟨hb, lt_of_block hh, cur, hh⟩
end Go.Proofs.YtmjgcenhgpkhiaaDoor
