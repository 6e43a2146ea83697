/- A range over a function whose loop variable is boxed: the law with the box laid in. Over any program. -/
import Derived.Test.YtmjgcenhgpkhiaaDoorGen
import Derived.RangeFuncNested
import Derived.RangeFuncBound
import Derived.RangeFuncCalls
import Derived.RangeFuncLeaves
import Derived.RangeFuncBox
namespace Go.Proofs.YtmjgcenhgpkhiaaDoor
open Go.RowKit
set_option linter.unusedVariables false
variable {P : Program} {F : Fence} {n : Nat}

/-- The frame in a round: the iterator's value, and the variable's box. -/
def boxAct {α : Type} (ps : Array Tmp) (encs : α → Array Value) (ix : Nat) (a : Act) (x : α) (Bx : Nat) : Act :=
  { tmps := ((ps.zip (encs x)).foldl (fun t (p, v) => t.setIfInBounds p v) a.tmps).setIfInBounds ix (.pointer (some ⟨Bx, 0, none⟩)), defers := [] }

theorem wpIn_range_box {α : Type} {g : Operand} {ps : Array Tmp} {assign body : Code} {Q : Exit → Act → World → Prop} {a : Act} {w : World}
    (hro : F.round = none) (h1 : 1 ≤ n) {gf : Nat} {lb : Array Value} (hg : a.eval g = .func (.func gf) #[] lb) (hFg : F.fn gf) (eg : ∀ args w, (callFunc gf args).run P w = .ok (.enter gf args) w)
    {encs : α → Array Value} {Kp : World → World → Prop} {S Sp : List α → Prop} {N : Nat} {w0 : World} (hseq : SeqStopsK F (n - 1) P gf lb encs Kp S Sp N w0)
    (hKt : ∀ {A B C : World}, Kp A B → Kp B C → Kp A C) (hKb : ∀ (W : World) (l : Nat) (o o' : Obj), w.heap.size ≤ l → W.heap[l]? = some o → o.isCells = false → o.isWalk = false → Kp W (W.putObj l o')) (hb0 : Below w0.heap.size w0 w) (hps : ∀ x, (encs x).size = ps.size)
    (I : List α → World → Prop) (Ix : Code → List α → World → Prop) (hI : OwnFrom w.heap.size I) (hIx : ∀ c, OwnFrom w.heap.size (Ix c)) (h0 : I [] w)
    (T : TypeId) (cs : α → List Value) (ix : Nat) (B0 : Nat) (hsz : ∀ pre W, I pre W → B0 ≤ W.heap.size) (hKa : ∀ pre W o, I pre W → Kp W (W.alloc o))
    (hassign : ∀ (l : Nat) (pre : List α) (x : α) (W : World) (K : Act → World → Prop), I pre W → K (boxAct ps encs ix a x W.heap.size) (W.alloc (.cells (cs x).toArray T)) →
      assign.wpIn (F.inRound l) (n - 1 - 1) P (Exit.then K (fun _ _ _ => False)) { tmps := (ps.zip (encs x)).foldl (fun t (p, v) => t.setIfInBounds p v) a.tmps, defers := [] } W)
    (hbody : ∀ (l : Nat) (pre : List α) (x : α) (Bx : Nat) (W : World), w.heap.size ≤ l → (∃ r, W.heap[l]? = some (.loop r)) → I pre W → B0 ≤ Bx → Blk W Bx (cs x).toArray T → pre.length < N → body.wpIn (F.inRound l) (n - 1 - 1) P (ownPostG w.heap.size Kp I Ix (pre ++ [x]) W) (boxAct ps encs ix a x Bx) W)
    (hdone : ∀ (D : Nat) (xs : List α) (W : World), w.heap.size ≤ D → S xs → I xs W → W.heap[D]? = some (.deferred (some [])) → Q .normal { a with defers := { target := .collected D, args := #[] } :: a.defers } W)
    (hstop : ∀ (D : Nat) (c : Code) (pre : List α) (W : World), w.heap.size ≤ D → Sp pre → Ix c pre W → W.heap[D]? = some (.deferred (some [])) → c.wpIn F n P Q { a with defers := { target := .collected D, args := #[] } :: a.defers } W) :
    (Code.rangeFunc g ps assign body).wpIn F n P Q a w :=
  wpIn_rangeFunc_ownH hro h1 hg hFg eg hseq hKt hKb hb0 hps I Ix hI hIx h0
    (fun x a' W => ∃ Bx, B0 ≤ Bx ∧ Blk W Bx (cs x).toArray T ∧ a' = boxAct ps encs ix a x Bx)
    (fun x a' _ X Y row hs hg hr => by
      obtain ⟨Bx, h1, h2, h3⟩ := hs
      refine ⟨Bx, h1, h2.grown hg (fun e => ?_), h3⟩
      obtain ⟨o, ho, hc⟩ := (hr Bx e).2
      rw [show X.heap[Bx]? = _ from h2] at ho
      cases ho
      cases hc)
    (fun l pre x W K hi hK => hassign l pre x W K hi (hK _ _ ((KeepsOthers.alloc _ _).from _) (hKa pre W _ hi) (hI.alloc _ hi) ⟨W.heap.size, hsz pre W hi, Blk.new _ _ _, rfl⟩))
    (fun l pre x a' W hl hr hi hAx hlt => by
      obtain ⟨Bx, h1, h2, rfl⟩ := hAx
      exact hbody l pre x Bx W hl hr hi h1 h2 hlt)
    hdone hstop

/-- What a call in a round leaves. -/
theorem keeps_below {W W1 : World} (h : Below W.heap.size W W1) (B : Nat) : KeepsFrom B W W1 := (KeepsOthers.of_grownBy (below_row h none) (fun j o e => by cases e)).from B
theorem blk_own {β : Type} (B : Nat) (cs : β → Array Value) (T : TypeId) : Own (fun (s : β) W => Blk W B (cs s) T) := fun s X Y row hs hg hr =>
  hs.grown hg fun e => by
    obtain ⟨o, ho, hc⟩ := hr B e
    rw [show X.heap[B]? = _ from hs] at ho
    cases ho
    cases hc
end Go.Proofs.YtmjgcenhgpkhiaaDoor
