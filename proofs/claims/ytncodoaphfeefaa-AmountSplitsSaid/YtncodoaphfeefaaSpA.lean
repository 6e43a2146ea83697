/- chattelref01.Split: its two rows, and the bits that the second one's numbers point to. -/
import Derived.Test.YtncodoaphfeefaaOrdB
import Derived.Test.YtncodoaphfeefaaAmtX
import Derived.Test.YtncodoaphfeefaaAmtK
namespace Go.Proofs.Ytncodoaphfeefaa
open Go.RowKit Go.Shelf
set_option linter.unusedVariables false
set_option linter.unusedSimpArgs false

/-- A number of the second row, as it lies. -/
structure Rst where
  z : Int
  s : Bool
  a : Option Addr
  l : Nat
  c : Nat
instance : Inhabited Rst := ⟨⟨0, false, none, 0, 0⟩⟩
def Rst.cs (r : Rst) : List Value := [.bool r.s, .slice r.a r.l r.c]
def Rst.ok (w : World) (r : Rst) : Prop := BigAt w r.z r.s r.a r.l r.c
theorem Rst.ok.grown' {w w' : World} {r : Rst} {row : Option Nat} (h : r.ok w) (hg : w.grownBy w' row) (hr : 0 < r.l → ∀ y, r.a = some y → row ≠ some y.block) : r.ok w' :=
  ⟨h.hs, h.hl, h.hc, h.hm, fun h0 => (h.hr.grown hg (hr h0)) h0⟩
theorem Rst.ok.lt {w : World} {r : Rst} (h : r.ok w) (h0 : 0 < r.l) {y : Addr} (e : r.a = some y) : y.block < w.heap.size := by
  obtain ⟨b, o, e', hc⟩ := h.hr h0
  rw [e] at e'
  cases e'
  have := World.block_lt_of_cell? w _ (hc 0 h0)
  exact this
def flatR : List Rst → List Value
  | [] => []
  | r :: rs => .bool r.s :: .slice r.a r.l r.c :: flatR rs
theorem flatR_len : ∀ rs : List Rst, (flatR rs).length = rs.length * 2
  | [] => rfl
  | r :: rs => by rw [flatR, List.length_cons, List.length_cons, flatR_len rs, List.length_cons]; omega
theorem flatR_append : ∀ (rs : List Rst) (r : Rst), flatR (rs ++ [r]) = flatR rs ++ [.bool r.s, .slice r.a r.l r.c]
  | [], r => rfl
  | x :: rs, r => by rw [List.cons_append, flatR, flatR_append rs r, flatR]; rfl
theorem flatR_get : ∀ (rs : List Rst) (i : Nat) (r : Rst), rs[i]? = some r → (flatR rs)[i * 2]? = some (.bool r.s) ∧ (flatR rs)[i * 2 + 1]? = some (.slice r.a r.l r.c)
  | [], i, r, h => by simp at h
  | x :: rs, 0, r, h => by simp at h; subst h; exact ⟨rfl, rfl⟩
  | x :: rs, i + 1, r, h => by
    have ih := flatR_get rs i r (by simpa using h)
    rw [show (i + 1) * 2 = i * 2 + 1 + 1 by omega, flatR]
    simpa using ih
theorem flatR_set : ∀ (rs : List Rst) (i : Nat) (r : Rst), i < rs.length → flatR (rs.set i r) = ((flatR rs).set (i * 2) (.bool r.s)).set (i * 2 + 1) (.slice r.a r.l r.c)
  | [], i, r, h => by simp at h
  | x :: rs, 0, r, h => rfl
  | x :: rs, i + 1, r, h => by
    have ih := flatR_set rs i r (by simpa using h)
    rw [List.set_cons_succ, flatR, ih, flatR, show (i + 1) * 2 = i * 2 + 1 + 1 by omega]
    simp

structure SpI (wb w : World) (vo vr : Value) (outs : List Int) (rs ts : List Rst) : Prop where
  o : w.ownsRow wb.heap.size 3 1 vo outs.length (outs.map (Value.int .i64))
  r : w.ownsRow wb.heap.size 29 2 vr rs.length (flatR rs)
  big : ∀ x ∈ ts, x.ok w ∧ (0 < x.l → ∀ y, x.a = some y → vo.ownBlock ≠ some y.block ∧ vr.ownBlock ≠ some y.block)
  be : Below wb.heap.size wb w
theorem SpI.after {wb w w' : World} {vo vr : Value} {outs : List Int} {rs ts : List Rst} (h : SpI wb w vo vr outs rs ts) (hb : Below w.heap.size w w') : SpI wb w' vo vr outs rs ts :=
  ⟨own_after h.o hb, own_after h.r hb, fun x hx => ⟨BigAt.after (h.big x hx).1 hb, (h.big x hx).2⟩, h.be.trans (hb.mono h.be.size)⟩
theorem SpI.start {wb : World} : SpI wb wb (.slice none 0 0) (.slice none 0 0) [] [] [] :=
  ⟨World.ownsRow_nil _ _ _ _, World.ownsRow_nil _ _ _ _, fun x hx => by simp at hx, Below.refl _ _⟩
/-- A new number beside the rows. -/
theorem SpI.track {wb w w' : World} {vo vr : Value} {outs : List Int} {rs ts : List Rst} (h : SpI wb w vo vr outs rs ts) (hb : Below w.heap.size w w') (x : Rst) (hx : x.ok w') (hf : ∀ y, x.a = some y → w.heap.size ≤ y.block) : SpI wb w' vo vr outs rs (ts ++ [x]) := by
  have h' := h.after hb
  refine ⟨h'.o, h'.r, fun y hy => ?_, h'.be⟩
  rcases List.mem_append.1 hy with hy | hy
  · exact h'.big y hy
  · rw [List.mem_singleton] at hy
    subst hy
    refine ⟨hx, fun _ q e => ⟨fun e2 => ?_, fun e2 => ?_⟩⟩
    · have := (h.o.lt _ e2).2
      have := hf q e
      omega
    · have := (h.r.lt _ e2).2
      have := hf q e
      omega
theorem SpI.less {wb w : World} {vo vr : Value} {outs : List Int} {rs ts us : List Rst} (h : SpI wb w vo vr outs rs ts) (hu : ∀ x ∈ us, x ∈ ts) : SpI wb w vo vr outs rs us := ⟨h.o, h.r, fun x hx => h.big x (hu x hx), h.be⟩
theorem SpI.out {wb w w' : World} {vo vr : Value} {outs : List Int} {rs ts : List Rst} {n : Int} {g cap : Nat} (h : SpI wb w vo vr outs rs ts)
    (hown : w'.ownsRow wb.heap.size 3 1 (.slice (some ⟨g, 0, none⟩) (outs.length + 1) cap) (outs.length + 1) (outs.map (Value.int .i64) ++ [.int .i64 n])) (hg : w.grownBy w' vo.ownBlock) (hat : vo.ownBlock = some g ∨ g = w.heap.size) :
    SpI wb w' (.slice (some ⟨g, 0, none⟩) (outs.length + 1) cap) vr (outs ++ [n]) rs ts := by
  refine ⟨by rw [List.length_append, List.map_append]; exact hown, own_kept h.r h.o (by decide) hg, fun x hx => ?_, h.be.grown hg h.be.size fun k e => (h.o.lt k e).1⟩
  obtain ⟨h1, h2⟩ := h.big x hx
  refine ⟨h1.grown' hg fun h0 y e => (h2 h0 y e).1, fun h0 y e => ⟨fun e2 => ?_, (h2 h0 y e).2⟩⟩
  have e3 : g = y.block := by simpa [Value.ownBlock] using e2
  rcases hat with hat | hat
  · exact (h2 h0 y e).1 (by rw [hat, e3])
  · have := h1.lt h0 e
    omega
theorem SpI.rest {wb w w' : World} {vo vr : Value} {outs : List Int} {rs ts : List Rst} {r : Rst} {g cap : Nat} (h : SpI wb w vo vr outs rs ts)
    (hown : w'.ownsRow wb.heap.size 29 2 (.slice (some ⟨g, 0, none⟩) (rs.length + 1) cap) (rs.length + 1) (flatR rs ++ [.bool r.s, .slice r.a r.l r.c])) (hg : w.grownBy w' vr.ownBlock) (hat : vr.ownBlock = some g ∨ g = w.heap.size) :
    SpI wb w' vo (.slice (some ⟨g, 0, none⟩) (rs.length + 1) cap) outs (rs ++ [r]) ts := by
  refine ⟨own_kept h.o h.r (by decide) hg, by rw [List.length_append, flatR_append]; exact hown, fun x hx => ?_, h.be.grown hg h.be.size fun k e => (h.r.lt k e).1⟩
  obtain ⟨h1, h2⟩ := h.big x hx
  refine ⟨h1.grown' hg fun h0 y e => (h2 h0 y e).2, fun h0 y e => ⟨(h2 h0 y e).1, fun e2 => ?_⟩⟩
  have e3 : g = y.block := by simpa [Value.ownBlock] using e2
  rcases hat with hat | hat
  · exact (h2 h0 y e).2 (by rw [hat, e3])
  · have := h1.lt h0 e
    omega
theorem own_set1' {w : World} {base size n g cap : Nat} {e : TypeId} {xs : List Value} (h : w.ownsRow base e size (.slice (some ⟨g, 0, none⟩) n cap) n xs) (j : Nat) (hj : j < n * size) (u : Value) :
    (w.setCell ⟨g, j, none⟩ u).ownsRow base e size (.slice (some ⟨g, 0, none⟩) n cap) n (xs.set j u) := by
  refine ⟨by rw [List.length_set]; exact h.1, ?_⟩
  rcases h.2 with ⟨e0, _⟩ | ⟨g', cap', cur, e1, hb, hg, hnc, hm, hsz, ht⟩
  · cases e0
  · cases e1
    refine Or.inr ⟨g, cap, cur.setIfInBounds j u, rfl, hb, Blk.set hg j u, hnc, hm, by simpa using hsz, ?_⟩
    rw [Array.toList_setIfInBounds, List.take_set, ht]
/-- A row that is not empty: its block, its cells. -/
theorem row_open {w : World} {base e size n : Nat} {v : Value} {xs : List Value} (h : w.ownsRow base e size v n xs) (h0 : 0 < n) : ∃ g cap, v = .slice (some ⟨g, 0, none⟩) n cap ∧ base ≤ g ∧ g < w.heap.size ∧ n ≤ cap ∧ cap ≤ maxLen ∧
    ∀ i u, xs[i]? = some u → w.cell? ⟨g, i, none⟩ = some u ∧ w.frozen? ⟨g, i, none⟩ = false := by
  rcases h.2 with ⟨_, e0⟩ | ⟨g, cap, cur, rfl, hb, hg, hnc, hm, hsz, ht⟩
  · omega
  · have hB : Blk w g cur e := hg
    refine ⟨g, cap, rfl, hb, hB.lt, hnc, hm, fun i u hu => ⟨hB.cell i ?_, hB.free i⟩⟩
    rw [← ht] at hu
    rw [List.getElem?_take] at hu
    split at hu
    · simpa using hu
    · cases hu
theorem SpI.setOut {wb w : World} {vr : Value} {outs : List Int} {rs ts : List Rst} {g cap : Nat} (h : SpI wb w (.slice (some ⟨g, 0, none⟩) outs.length cap) vr outs rs ts) (i : Nat) (hi : i < outs.length) (n : Int) :
    SpI wb (w.setCell ⟨g, i, none⟩ (.int .i64 n)) (.slice (some ⟨g, 0, none⟩) outs.length cap) vr (outs.set i n) rs ts := by
  have hg : w.grownBy (w.setCell ⟨g, i, none⟩ (.int .i64 n)) (some g) := grown_setCell _ _ _ _
  have h1 := own_set1' h.o i (by omega) (.int .i64 n)
  refine ⟨by rw [List.length_set, List.map_set]; exact h1, own_kept h.r h.o (by decide) hg, fun x hx => ?_, h.be.grown hg h.be.size fun k e => (h.o.lt k e).1⟩
  obtain ⟨h1, h2⟩ := h.big x hx
  exact ⟨h1.grown' hg fun h0 y e => (h2 h0 y e).1, h2⟩
theorem SpI.setRest {wb w : World} {vo : Value} {outs : List Int} {rs ts : List Rst} {g cap : Nat} (h : SpI wb w vo (.slice (some ⟨g, 0, none⟩) rs.length cap) outs rs ts) (i : Nat) (hi : i < rs.length) (r : Rst) :
    SpI wb ((w.setCell ⟨g, i * 2, none⟩ (.bool r.s)).setCell ⟨g, i * 2 + 1, none⟩ (.slice r.a r.l r.c)) vo (.slice (some ⟨g, 0, none⟩) rs.length cap) outs (rs.set i r) ts := by
  have hg : w.grownBy ((w.setCell ⟨g, i * 2, none⟩ (.bool r.s)).setCell ⟨g, i * 2 + 1, none⟩ (.slice r.a r.l r.c)) (some g) := grown_trans (grown_setCell _ _ _ _) (grown_setCell _ _ _ _)
  have h1 := own_set1' (own_set1' h.r (i * 2) (by omega) (.bool r.s)) (i * 2 + 1) (by omega) (.slice r.a r.l r.c)
  refine ⟨own_kept h.o h.r (by decide) hg, by rw [List.length_set, flatR_set rs i r hi]; exact h1, fun x hx => ?_, h.be.grown hg h.be.size fun k e => (h.r.lt k e).1⟩
  obtain ⟨h1, h2⟩ := h.big x hx
  exact ⟨h1.grown' hg fun h0 y e => (h2 h0 y e).2, h2⟩

end Go.Proofs.Ytncodoaphfeefaa
