/- A range over a function whose values bear memory with them (a fact of the value and of the world, that the round may use), the last variable boxed. Over any program. -/
import Derived.Test.YtpinhomalmknjaaDoorRangeB
import Derived.Test.YtpinhomalmknjaaDoorRec
namespace Go.Proofs.YtpinhomalmknjaaDoor
open Go.RowKit
set_option linter.unusedVariables false
variable {P : Program} {F : Fence} {n : Nat}

/-- An iterator that gives values each of which comes with a fact of the world. 'm' is a mark that the iterator sets behind its own beginning: what a round must keep may hang on it. -/
def SeqTells {α : Type} (F : Fence) (n : Nat) (P : Program) (g : Nat) (lb : Array Value) (encs : α → Array Value) (Fact : α → World → Prop) (Kp : Nat → Nat → World → World → Prop) (S Sp : List α → Prop) (N : Nat) (w : World) : Prop :=
  ∀ (l : Nat) (J : Nat → List α → World → Prop) (Jx : List α → World → Prop) (W : World), Below w.heap.size w W → (∀ m, OwnFrom W.heap.size (J m)) → OwnFrom W.heap.size Jx →
    (∀ m pre x W1, W.heap.size ≤ m → J m pre W1 → Fact x W1 → pre.length < N → YieldAt F (n - 1) P l (encs x) W1 fun e W' => (e = .returned (.bool true) ∧ J m (pre ++ [x]) W' ∧ Kp W.heap.size m W1 W' ∧ KeepsFrom W.heap.size W1 W') ∨ (e = .returned (.bool false) ∧ Jx (pre ++ [x]) W' ∧ KeepsFrom W.heap.size W1 W')) →
    (∀ m W2, Below W.heap.size W W2 → W.heap.size ≤ m → m ≤ W2.heap.size → J m [] W2) →
    CallsIn F n P g (#[.func (.yield l) #[] #[]] ++ lb) W fun e W' => (∃ v, e = .returned v) ∧ ((∃ m xs, S xs ∧ J m xs W') ∨ (∃ pre, Sp pre ∧ Jx pre W'))
theorem SeqTells.less {α : Type} {g : Nat} {lb : Array Value} {encs : α → Array Value} {Fact : α → World → Prop} {Kp Kp' : Nat → Nat → World → World → Prop} {S Sp : List α → Prop} {N : Nat} {w : World} (h : SeqTells F n P g lb encs Fact Kp S Sp N w) (hk : ∀ lo m A B, Kp' lo m A B → Kp lo m A B) : SeqTells F n P g lb encs Fact Kp' S Sp N w :=
  fun l J Jx W hW hJ hJx hY h0 => h l J Jx W hW hJ hJx (fun m pre x W1 hm hj hf hl => (hY m pre x W1 hm hj hf hl).mono fun e W' hh => hh.imp (fun ⟨a, b, c, d⟩ => ⟨a, b, hk _ _ _ _ c, d⟩) id) h0
/-- Cells, or a map: no record of a loop's. -/
def Plain (o : Obj) : Prop := (∃ cs t fr, o = .cells cs t fr) ∨ ∃ es c, o = .map es c
/-- What lies below a mark is kept, and what cells and maps lie between two others. -/
structure Kept (n₀ lo hi : Nat) (A B : World) : Prop where
  be : Below n₀ A B
  mid : ∀ k o, lo ≤ k → k < hi → A.heap[k]? = some o → Plain o → B.heap[k]? = some o
theorem Kept.trans {n₀ lo hi : Nat} {A B C : World} (h : Kept n₀ lo hi A B) (k : Kept n₀ lo hi B C) : Kept n₀ lo hi A C := ⟨h.be.trans k.be, fun j o h1 h2 h3 h4 => k.mid j o h1 h2 (h.mid j o h1 h2 h3 h4) h4⟩
theorem Kept.of_below {n₀ lo hi : Nat} {A B : World} (h : Below A.heap.size A B) (hn : n₀ ≤ A.heap.size) : Kept n₀ lo hi A B := ⟨h.mono hn, fun k o _ _ h3 _ => (h.block k (Array.getElem?_eq_some_iff.1 h3).1).trans h3⟩
theorem Kept.put {n₀ lo hi : Nat} {W : World} {l : Nat} {o o' : Obj} (h : W.heap[l]? = some o) (hn : n₀ ≤ l) (ho : ¬ Plain o) : Kept n₀ lo hi W (W.putObj l o') :=
  ⟨(Below.refl n₀ W).grown (grownBy_putObj' W l o') (by have := (Array.getElem?_eq_some_iff.1 h).1; omega) (fun k e => by cases e; exact hn), fun k o2 _ _ h3 h4 => by
    by_cases e : k = l
    · subst e
      rw [h] at h3
      cases h3
      exact absurd h4 ho
    · exact (World.putObj_heap_other e).trans h3⟩
theorem not_plain_loop (r : Loop) : ¬ Plain (.loop r) := fun h => by rcases h with ⟨_, _, _, h⟩ | ⟨_, _, h⟩ <;> cases h

theorem obj_kept {A B : World} {row : Option Nat} {k m : Nat} {o : Obj} (h : A.heap[k]? = some o) (hk : k < m) (hg : A.grownBy B row) (hr : ∀ r, row = some r → m ≤ r) : B.heap[k]? = some o :=
  (hg.block k (Array.getElem?_eq_some_iff.1 h).1 (fun e => by have := hr k e.symm; omega)).trans h
set_option maxHeartbeats 400000 in
theorem wpIn_range_tells {α : Type} {g : Operand} {ps : Array Tmp} {assign body : Code} {Q : Exit → Act → World → Prop} {a : Act} {w : World}
    (hro : F.round = none) (h1 : 1 ≤ n) {gf : Nat} {lb : Array Value} (hg : a.eval g = .func (.func gf) #[] lb) (hFg : F.fn gf) (eg : ∀ args w, (callFunc gf args).run P w = .ok (.enter gf args) w)
    {encs : α → Array Value} {Fact : α → World → Prop} {Kp : Nat → Nat → World → World → Prop} {S Sp : List α → Prop} {N : Nat} {w0 : World} (hseq : SeqTells F (n - 1) P gf lb encs Fact Kp S Sp N w0)
    (hKt : ∀ m A B C, Kp (w.heap.size + 2) m A B → Kp (w.heap.size + 2) m B C → Kp (w.heap.size + 2) m A C) (hKb : ∀ m A B, w.heap.size ≤ A.heap.size → Below A.heap.size A B → Kp (w.heap.size + 2) m A B) (hKq : ∀ m (A : World) l r o', w.heap.size ≤ l → A.heap[l]? = some (.loop r) → Kp (w.heap.size + 2) m A (A.putObj l o'))
    (hb0 : Below w0.heap.size w0 w) (hps : ∀ x, (encs x).size = ps.size)
    (I : Nat → List α → World → Prop) (Ix : List α → World → Prop) (hI : ∀ m, OwnFrom w.heap.size (I m)) (hIx : OwnFrom w.heap.size Ix) (h0 : ∀ m W, Below w.heap.size w W → w.heap.size + 2 ≤ m → m ≤ W.heap.size → I m [] W) (hIm : ∀ m pre W, I m pre W → m ≤ W.heap.size)
    (hF : ∀ x, OwnFrom w.heap.size (fun (_ : Unit) W => Fact x W))
    (T : TypeId) (cs : α → List Value) (af : α → Nat → Act) 
    (hassign : ∀ (l : Nat) (pre : List α) (x : α) (W : World) (K : Act → World → Prop), w.heap.size ≤ W.heap.size → K (af x W.heap.size) (W.alloc (.cells (cs x).toArray T)) →
      assign.wpIn (F.inRound l) (n - 1 - 1) P (Exit.then K (fun _ _ _ => False)) { tmps := (ps.zip (encs x)).foldl (fun t (p, v) => t.setIfInBounds p v) a.tmps, defers := [] } W)
    (hbody : ∀ (l m : Nat) (pre : List α) (x : α) (Bx : Nat) (W : World), w.heap.size < l → l < Bx → w.heap.size + 2 ≤ m → (∃ r, W.heap[l]? = some (.loop r)) → I m pre W → Fact x W → Blk W Bx (cs x).toArray T → pre.length < N →
      body.wpIn (F.inRound l) (n - 1 - 1) P (ownPostG w.heap.size (Kp (w.heap.size + 2) m) (I m) (fun c pre W => c = .ret ∧ Ix pre W) (pre ++ [x]) W) (af x Bx) W)
    (hdone : ∀ (D m : Nat) (xs : List α) (W : World), w.heap.size ≤ D → D < m → S xs → I m xs W → W.heap[D]? = some (.deferred (some [])) → Q .normal { a with defers := { target := .collected D, args := #[] } :: a.defers } W)
    (hstop : ∀ (D : Nat) (pre : List α) (W : World), w.heap.size ≤ D → Sp pre → Ix pre W → W.heap[D]? = some (.deferred (some [])) → Code.ret.wpIn F n P Q { a with defers := { target := .collected D, args := #[] } :: a.defers } W) :
    (Code.rangeFunc g ps assign body).wpIn F n P Q a w := by
  refine wpIn_rangeFunc fun fn hfn => ?_
  rw [hro]
  obtain ⟨R, hR⟩ : ∃ R : LoopState → Option Code → Loop, R = fun st pe => { state := st, pending := pe, fn, tmps := a.tmps, params := ps, assign, body, defers := w.heap.size } := ⟨_, rfl⟩
  obtain ⟨w1, hw1⟩ : ∃ w1, w.alloc (.deferred (some [])) = w1 := ⟨_, rfl⟩
  have z1 : w1.heap.size = w.heap.size + 1 := by rw [← hw1]; simp
  have hD1 : w1.heap[w.heap.size]? = some (.deferred (some [])) := by rw [← hw1]; exact World.alloc_heap_new w _
  obtain ⟨w2, hw2⟩ : ∃ w2, w1.alloc (.loop (R .ready none)) = w2 := ⟨_, rfl⟩
  have z2 : w2.heap.size = w.heap.size + 2 := by rw [← hw2]; simp [z1]
  have hL2 : w2.heap[w.heap.size + 1]? = some (.loop (R .ready none)) := by rw [← hw2, ← z1]; exact World.alloc_heap_new w1 _
  have hD2 : w2.heap[w.heap.size]? = some (.deferred (some [])) := by rw [← hw2]; exact (Below.heap_alloc _ _ _ (by omega)).trans hD1
  have hbw : Below w.heap.size w w2 := by rw [← hw2, ← hw1]; exact ((Below.refl _ w).alloc (Nat.le_refl _) _).alloc (by simp) _
  have hb2 : Below w0.heap.size w0 w2 := by rw [← hw2, ← hw1]; exact hb0.trans ((((Below.refl _ w).alloc (Nat.le_refl _) _).alloc (by simp) _).mono hb0.size)
  have hent : (Instr.enterLoop fn a.tmps ps assign body none).run P w = .ok (w.heap.size + 1, [{ target := .collected w.heap.size, args := #[] }]) w2 := by rw [← hw2, ← hw1, hR]; exact run_enterLoop_outer _ _ _ _ _
  -- what the loop's two blocks hold between two rounds
  have hseq' := hseq (w.heap.size + 1)
    (fun m pre W => (I m pre W ∧ w.heap.size + 2 ≤ m) ∧ W.heap[w.heap.size + 1]? = some (.loop (R .ready none)) ∧ W.heap[w.heap.size]? = some (.deferred (some [])))
    (fun pre W => Ix pre W ∧ W.heap[w.heap.size + 1]? = some (.loop (R .done (some .ret))) ∧ W.heap[w.heap.size]? = some (.deferred (some []))) w2 hb2
    (fun m s A B row hs hg' hr => ⟨⟨hI m s A B row hs.1.1 hg' (fun r e => ⟨by have := (hr r e).1; omega, (hr r e).2⟩), hs.1.2⟩, obj_kept hs.2.1 (m := w2.heap.size) (by omega) hg' (fun r e => (hr r e).1), obj_kept hs.2.2 (m := w2.heap.size) (by omega) hg' (fun r e => (hr r e).1)⟩)
    (fun s A B row hs hg' hr => ⟨hIx s A B row hs.1 hg' (fun r e => ⟨by have := (hr r e).1; omega, (hr r e).2⟩), obj_kept hs.2.1 (m := w2.heap.size) (by omega) hg' (fun r e => (hr r e).1), obj_kept hs.2.2 (m := w2.heap.size) (by omega) hg' (fun r e => (hr r e).1)⟩)
  refine ⟨w.heap.size + 1, [{ target := .collected w.heap.size, args := #[] }], w2, { target := .fn (.func gf) lb, args := #[.func (.yield (w.heap.size + 1)) #[] #[]] }, w2, gf, #[.func (.yield (w.heap.size + 1)) #[] #[]] ++ lb, w2, hent, ?_, ?_, ?_, fun _ => h1, ?_⟩
  · simp only [resolve, hg]
    simp [go_sem]
  · intro f' hf'; simp [Target.leads] at hf'; subst hf'; exact hFg
  · simp [invoke, go_sem, eg]
  refine (hseq' ?_ (fun m W2 hb hm hm2 => ⟨⟨h0 m W2 (hbw.trans (hb.mono (by omega))) (by omega) hm2, by omega⟩, (hb.block _ (by omega)).trans hL2, (hb.block _ (by omega)).trans hD2⟩)).mono ?_
  · rintro m pre x W hm0 ⟨⟨hi, hm2⟩, hl, hd⟩ hx hlen
    have hmW := hIm m pre W hi
    rw [z2]
    have hlt : w.heap.size + 1 < W.heap.size := (Array.getElem?_eq_some_iff.1 hl).1
    have hy := run_yield (P := P) (args := encs x) hl (by rw [hR]; exact hps x)
    rw [hR] at hy
    refine ⟨fn, _, assign, body, hy, roundIn_of_wpIn hfn (hassign _ pre x W _ (by omega) ?_)⟩
    clear hy
    -- the variable's box
    obtain ⟨W1, hW1⟩ : ∃ W1, W.alloc (.cells (cs x).toArray T) = W1 := ⟨_, rfl⟩
    have zW : W1.heap.size = W.heap.size + 1 := by rw [← hW1]; simp
    have hl1 : W1.heap[w.heap.size + 1]? = some (.loop (R .ready none)) := by rw [← hW1]; exact (Below.heap_alloc _ _ _ (by omega)).trans hl
    have hd1 : W1.heap[w.heap.size]? = some (.deferred (some [])) := by rw [← hW1]; exact (Below.heap_alloc _ _ _ (by omega)).trans hd
    have hi1 : I m pre W1 := by rw [← hW1]; exact (hI m).alloc _ hi
    have hx1 : Fact x W1 := by rw [← hW1]; exact (hF x).alloc (s := ()) _ hx
    have hk1 : Blk W1 W.heap.size (cs x).toArray T := by rw [← hW1]; exact Blk.new _ _ _
    have hKp1 : Kp (w.heap.size + 2) m W W1 := by rw [← hW1]; exact hKb m _ _ (by omega) ((Below.refl _ _).alloc (Nat.le_refl _) _)
    rw [hW1]
    refine ⟨_, run_beginRound hl1 (by rw [hR]), ?_⟩
    -- the round is under way
    obtain ⟨W2, hW2⟩ : ∃ W2, W1.putObj (w.heap.size + 1) (.loop { R .ready none with state := .busy }) = W2 := ⟨_, rfl⟩
    have hl2 : W2.heap[w.heap.size + 1]? = some (.loop { R .ready none with state := .busy }) := by rw [← hW2]; exact World.putObj_heap_same (by omega)
    have hd2 : W2.heap[w.heap.size]? = some (.deferred (some [])) := by rw [← hW2]; exact (World.putObj_heap_other (by omega)).trans hd1
    have hk2 : Blk W2 W.heap.size (cs x).toArray T := by rw [← hW2]; exact (World.putObj_heap_other (by omega)).trans hk1
    have hi3 : I m pre W2 := by rw [← hW2]; exact (hI m).putObj _ hi1 (by omega) hl1 rfl
    have hx3 : Fact x W2 := by rw [← hW2]; exact (hF x).putObj (s := ()) _ hx1 (by omega) hl1 rfl
    have hKp2 : Kp (w.heap.size + 2) m W1 W2 := by rw [← hW2]; exact hKq m _ _ _ _ (by omega) hl1
    rw [hW2]
    refine wpIn_mono (hbody _ m pre x _ W2 (by omega) (by omega) hm2 ⟨_, hl2⟩ hi3 hx3 hk2 hlen) ?_
    have fin : ∀ (jump : Option Code) (W3 : World), KeepsFrom w.heap.size W2 W3 →
        (Instr.endRound (w.heap.size + 1) jump).run P W3 = .ok (.bool jump.isNone) (W3.putObj (w.heap.size + 1) (.loop (R (if jump.isNone then .ready else .done) jump))) ∧
        W3.heap[w.heap.size + 1]? = some (.loop { R .ready none with state := .busy }) ∧
        (W3.putObj (w.heap.size + 1) (.loop (R (if jump.isNone then .ready else .done) jump))).heap[w.heap.size + 1]? = some (.loop (R (if jump.isNone then .ready else .done) jump)) ∧
        (W3.putObj (w.heap.size + 1) (.loop (R (if jump.isNone then .ready else .done) jump))).heap[w.heap.size]? = some (.deferred (some [])) := fun jump W3 hk3 => by
      have hl3 := hk3.same _ _ (by omega) hl2 rfl
      have hrun := run_endRound (P := P) jump hl3
      rw [hR] at hrun ⊢
      exact ⟨hrun, by rw [hR] at hl3; exact hl3, World.putObj_heap_same (Array.getElem?_eq_some_iff.1 hl3).1, (World.putObj_heap_other (by omega)).trans (hk3.same _ _ (Nat.le_refl _) hd2 rfl)⟩
    have hkf : ∀ (jump : Option Code) (W3 : World), KeepsFrom w.heap.size W2 W3 → KeepsFrom (w.heap.size + 2) W (W3.putObj (w.heap.size + 1) (.loop (R (if jump.isNone then .ready else .done) jump))) := fun jump W3 hk3 => by
      refine ⟨?_, fun k o hB hk ho => ?_⟩
      · have h3 := hk3.size
        have h2 : W1.heap.size ≤ W2.heap.size := by rw [← hW2]; exact (grownBy_putObj' W1 _ _).size
        have h4 := (grownBy_putObj' W3 (w.heap.size + 1) (.loop (R (if jump.isNone then .ready else .done) jump))).size
        omega
      · have g1 : W1.heap[k]? = some o := by rw [← hW1]; exact (Below.heap_alloc _ _ _ (Array.getElem?_eq_some_iff.1 hk).1).trans hk
        have g2 : W2.heap[k]? = some o := by rw [← hW2]; exact (World.putObj_heap_other (by omega)).trans g1
        exact (World.putObj_heap_other (by omega)).trans (hk3.same _ _ (by omega) g2 ho)
    rintro e a3 W3 hp
    cases e with
    | normal =>
      obtain ⟨hk3, hkp3, hi4⟩ := hp
      obtain ⟨hr, hl3, hl4, hd4⟩ := fin none W3 hk3
      exact ⟨_, _, hr, .inl ⟨rfl, ⟨⟨(hI m).putObj _ hi4 (by omega) hl3 rfl, hm2⟩, hl4, hd4⟩, hKt m _ _ _ hKp1 (hKt m _ _ _ (hKt m _ _ _ hKp2 hkp3) (hKq m _ _ _ _ (by omega) hl3)), hkf none W3 hk3⟩⟩
    | ret =>
      obtain ⟨hk3, _, hi4⟩ := hp
      obtain ⟨hr, hl3, hl4, hd4⟩ := fin (some .ret) W3 hk3
      exact ⟨_, _, hr, .inr ⟨rfl, ⟨hIx.putObj _ hi4 (by omega) hl3 rfl, hl4, hd4⟩, hkf (some .ret) W3 hk3⟩⟩
    | exit id =>
      obtain ⟨_, he, _⟩ := hp
      cases he
    | goto t =>
      obtain ⟨_, he, _⟩ := hp
      cases he
    | panic ch => exact hp.elim
    | outgrown => exact hp.elim
  · rintro e W2 ⟨⟨v, rfl⟩, (⟨m, xs, hS, ⟨hi, hm2⟩, hl, hd⟩ | ⟨pre, hSp, hi, hl, hd⟩)⟩
    · have hrun := run_endLoop (P := P) hl (by rw [hR]; simp)
      rw [hR] at hrun
      exact ⟨none, _, hrun, hdone _ m xs _ (Nat.le_refl _) (by omega) hS ((hI m).putObj _ hi (by omega) hl rfl) ((World.putObj_heap_other (by omega)).trans hd)⟩
    · have hrun := run_endLoop (P := P) hl (by rw [hR]; simp)
      rw [hR] at hrun
      exact ⟨some .ret, _, hrun, hstop _ pre _ (Nat.le_refl _) hSp (hIx.putObj _ hi (by omega) hl rfl) ((World.putObj_heap_other (by omega)).trans hd)⟩
theorem roundIn_any {m m' l l' : Nat} {f : FuncId} {tmps : Array Value} {assign body : Code} {w : World} {R : Ending → World → Prop} (h : RoundIn Fence.wide m P l f tmps assign body w R) : RoundIn (Fence.wide.inRound l') m' P l f tmps assign body w R :=
  ⟨h.1, fun c cs _ => h.2 c cs (room_wide _)⟩
end Go.Proofs.YtpinhomalmknjaaDoor
