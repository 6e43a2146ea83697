/- What the law AdjustEntries reaches beside adjust.Entries: Same of like entries, adjust.Of of nothing, a list of entries of its own. -/
import Derived.Test.YtmjgcenhgpkhiaaDoorEfD
import Derived.Test.YtmjgcenhgpkhiaaDoorAdL
namespace Go.Proofs.YtmjgcenhgpkhiaaDoor
open Go.RowKit Go.Sort Go.Shelf
set_option linter.unusedVariables false
set_option linter.unusedSimpArgs false
set_option maxRecDepth 100000

set_option maxHeartbeats 2000000 in
theorem same_yes (s : Six) (a b : Option Addr) (ca cb : Nat) (xs : List Ln) (w : World) (hx : LnAt w a xs) (hy : LnAt w b xs) (hl : xs.length ≤ 1000000) : Calls Tryd.prog 12 #[entV s a xs.length ca, entV s b xs.length cb] w fun e w' => e = .returned (.bool true) ∧ Below w.heap.size w w' := by
  obtain ⟨con, day, cur, sq, pr, ref⟩ := s
  unfold entV
  have ht := tag_eq con day cur con day cur
  rw [decide_eq_true (rfl : (⟨con, day, cur⟩ : Ln) = ⟨con, day, cur⟩)] at ht
  have hb : Below w.heap.size w ((w.alloc (.cells #[.int .i64 con, .int .i64 day, .int .i64 cur, .int .i64 sq, .int .i64 pr, .int .i64 ref, .slice a xs.length ca] 26)).alloc (.cells #[.int .i64 con, .int .i64 day, .int .i64 cur, .int .i64 sq, .int .i64 pr, .int .i64 ref, .slice b xs.length cb] 26)) := ((Below.refl _ _).alloc (Nat.le_refl _) _).alloc (by simp) _
  have HQ := Lib.hid (equal_ok a b ca cb xs xs _ (hx.after hb) (hy.after hb) hl hl)
  have HB := Lib.hid hb
  clear hx hy hb
  go_enter Tryd.func12, Tryd.ntmps12
  go_wp2_with fail
  refine HQ.out.mono ?_
  rintro e w1 ⟨rfl, hb1⟩
  go_wp2_with fail
  go_ret
  exact ⟨rfl, HB.out.trans (hb1.mono HB.out.size)⟩

theorem of_nothing (n : Int) (w : World) : Calls Tryd.prog 13 #[.int .i64 n, .nilFunc] w fun e w' => e = .returned (.slice none 0 0) ∧ Below w.heap.size w w' := by
  have hnf : ∀ W, (binOp .eql 72 .nilFunc .nilFunc).run Tryd.prog W = .ok (.bool true) W := fun W => by kernel_rfl
  go_enter Tryd.func13, Tryd.ntmps13
  go_wp2_with fail
  go_ret
  exact ⟨rfl, (Below.refl _ _).alloc (Nat.le_refl _) _⟩

/-- A list of entries of one's own. -/
structure RowL (base : Nat) (L : List EnP) (w : World) (v : Value) : Prop where
  ex : ∃ (a : Option Addr) (cap : Nat) (X : List En), v = .slice a X.length cap ∧ w.ownsRow base 26 7 (.slice a X.length cap) X.length (cellsL En.cs X) ∧ X.map En.p = L ∧ (∀ e ∈ X, EnOk w e) ∧ ∀ e ∈ X, LnOff (.slice a X.length cap) e
theorem RowL.after {base : Nat} {L : List EnP} {w w' : World} {v : Value} (h : RowL base L w v) (hb : Below w.heap.size w w') : RowL base L w' v := by
  obtain ⟨a, cap, X, h0, h2, h3, h4, h5⟩ := h.ex
  exact ⟨a, cap, X, h0, own_after h2 hb, h3, fun e he => (h4 e he).after hb, h5⟩
theorem RowL.nil (w : World) (base : Nat) : RowL base [] w (.slice none 0 0) :=
  ⟨none, 0, [], rfl, World.ownsRow_nil _ _ _ _, rfl, fun e he => by simp at he, fun e he => by simp at he⟩
theorem RowL.put {base top : Nat} {L : List EnP} {w wA wG : World} {a : Option Addr} {cap g c3 : Nat} {X : List En} {y : En} (hO : w.ownsRow base 26 7 (.slice a X.length cap) X.length (cellsL En.cs X)) (hX : X.map En.p = L) (hok : ∀ e ∈ X, EnOk w e) (hoff : ∀ e ∈ X, LnOff (.slice a X.length cap) e)
    (hlt : ∀ g, (Value.slice a X.length cap).ownBlock = some g → g < top) (hbz : base ≤ w.heap.size) (hy : EnOk w y) (hn : ∀ x, y.a = some x → top ≤ x.block) (hA : Below w.heap.size w wA)
    (hG : wG.ownsRow base 26 7 (.slice (some ⟨g, 0, none⟩) (X.length + 1) c3) (X.length + 1) (cellsL En.cs X ++ y.cs)) (hgrow : wA.grownBy wG (Value.slice a X.length cap).ownBlock) (hat : (Value.slice a X.length cap).ownBlock = some g ∨ g = wA.heap.size) :
    RowL base (L ++ [y.p]) wG (.slice (some ⟨g, 0, none⟩) (X.length + 1) c3) ∧ Below base w wG := by
  have hokA : ∀ e ∈ X ++ [y], EnOk wA e := fun e he => by
    rcases List.mem_append.1 he with h1 | h1
    · exact (hok e h1).after hA
    · rw [List.mem_singleton.1 h1]; exact hy.after hA
  have hfA : ∀ e ∈ X ++ [y], LnOff (.slice a X.length cap) e := fun e he => by
    rcases List.mem_append.1 he with h1 | h1
    · exact hoff e h1
    · rw [List.mem_singleton.1 h1]
      intro x hx hl hv
      have h1 := hlt _ hv
      have h2 := hn x hx
      omega
  have hOA := own_after hO hA
  have hokG : ∀ e ∈ X ++ [y], EnOk wG e := fun e he => by
    refine ⟨fun hl => ?_, (hokA e he).wf, (hokA e he).few, (hokA e he).nil⟩
    obtain ⟨b, o, e1, hc⟩ := (hokA e he).ln hl
    have hne := hfA e he _ e1 hl
    exact ⟨b, o, e1, fun i hi => ⟨grown_cell hgrow (hc i hi).1 hne, grown_cell hgrow (hc i hi).2.1 hne, grown_cell hgrow (hc i hi).2.2 hne⟩⟩
  have hlen : (X ++ [y]).length = X.length + 1 := by simp
  refine ⟨⟨some ⟨g, 0, none⟩, c3, X ++ [y], by rw [hlen], by rw [hlen, cellsL_snoc]; exact hG, by rw [List.map_append, hX]; rfl, fun e he => hokG e he, fun e he x hx hl hg => ?_⟩, ?_⟩
  · simp only [Value.ownBlock, Option.some.injEq] at hg
    rcases hat with h1 | h1
    · exact hfA e he x hx hl (by rw [h1, hg])
    · have := (hokA e he).ln.lt hl x hx
      omega
  · exact (hA.mono hbz).grown hgrow (by have := hA.size; omega) (fun q e => (own_cells hO e).1)

theorem Blk.set7 {w : World} {B : Nat} {T : TypeId} {z0 z1 z2 z3 z4 z5 z6 : Value} (h : Blk w B #[z0, z1, z2, z3, z4, z5, z6] T) (v0 v1 v2 v3 v4 v5 v6 : Value) :
    Blk (((((((w.setCell ⟨B, 0, none⟩ v0).setCell ⟨B, 1, none⟩ v1).setCell ⟨B, 2, none⟩ v2).setCell ⟨B, 3, none⟩ v3).setCell ⟨B, 4, none⟩ v4).setCell ⟨B, 5, none⟩ v5).setCell ⟨B, 6, none⟩ v6) B #[v0, v1, v2, v3, v4, v5, v6] T := by
  have h0 : Blk _ B #[v0, z1, z2, z3, z4, z5, z6] T := h.set 0 v0
  have h1 : Blk _ B #[v0, v1, z2, z3, z4, z5, z6] T := h0.set 1 v1
  have h2 : Blk _ B #[v0, v1, v2, z3, z4, z5, z6] T := h1.set 2 v2
  have h3 : Blk _ B #[v0, v1, v2, v3, z4, z5, z6] T := h2.set 3 v3
  have h4 : Blk _ B #[v0, v1, v2, v3, v4, z5, z6] T := h3.set 4 v4
  have h5 : Blk _ B #[v0, v1, v2, v3, v4, v5, z6] T := h4.set 5 v5
  have h6 : Blk _ B #[v0, v1, v2, v3, v4, v5, v6] T := h5.set 6 v6
  exact h6

/-- What Entries tells, in one piece. -/
def EntsFlat (con h v : Int) (err : Int → Int) (ans : Int → EnP) (cs : List Cg) (w : World) (e : Ending) (w' : World) : Prop :=
  ∃ F la ln lc, e = .returned (.tuple #[.slice la ln lc, .int .i64 F]) ∧ entsE con h v err ans cs = F ∧ (F ≠ 0 → la = none ∧ ln = 0 ∧ lc = 0) ∧ (F = 0 → ∃ X : List En, X.length = ln ∧ X.map En.p = entsL con h v ans cs ∧ SlAt w' 7 En.cs la lc X ∧ ∀ e ∈ X, EnOk w' e) ∧ Below w.heap.size w w'
theorem EntsEnd.flat {con h v : Int} {err : Int → Int} {ans : Int → EnP} {cs : List Cg} {w : World} {e : Ending} {w' : World} (H : EntsEnd con h v err ans cs w e w') : EntsFlat con h v err ans cs w e w' := by
  obtain ⟨hb, ⟨h0, a, cap, X, rfl, h1, h2, h3⟩ | ⟨h0, rfl⟩⟩ := H
  · exact ⟨0, a, X.length, cap, rfl, h0, fun h => absurd rfl h, fun _ => ⟨X, rfl, h1, h2, h3⟩, hb⟩
  · exact ⟨_, none, 0, 0, rfl, rfl, fun _ => ⟨rfl, rfl, rfl⟩, fun h => absurd h h0, hb⟩

end Go.Proofs.YtmjgcenhgpkhiaaDoor
