/- Package adjust: Entries: what is put. -/
import Derived.Test.YtmjgcenhgpkhiaaDoorLgA
import Derived.Test.YtmjgcenhgpkhiaaDoorEfA
namespace Go.Proofs.YtmjgcenhgpkhiaaDoor
open Go.RowKit Go.Sort Go.Shelf
set_option linter.unusedVariables false
set_option linter.unusedSimpArgs false
set_option maxRecDepth 100000

theorem infoEntE : (Tryd.prog.info? 26).map (fun i => (i.zero, i.size, i.bytes)) = some (some (.agg #[.int .i64 0, .int .i64 0, .int .i64 0, .int .i64 0, .int .i64 0, .int .i64 0, .slice none 0 0]), 7, 72) := by kernel_rfl
theorem En.len7 (e : En) : e.cs.length = 7 := rfl
theorem En.one7 : ∀ e : En, ∀ v ∈ e.cs, v.oneCell' = true := fun e v hv => by simp [En.cs] at hv; rcases hv with rfl | rfl | rfl | rfl | rfl | rfl | rfl <;> rfl
def LnOff (v : Value) (e : En) : Prop := ∀ x, e.a = some x → 0 < e.ls.length → v.ownBlock ≠ some x.block
/-- Entries that are put in a variable that closures share. -/
structure OutAt (base B top : Nat) (L : List EnP) (w : World) : Prop where
  ex : ∃ (a : Option Addr) (cap : Nat) (X : List En), Blk w B #[.slice a X.length cap] 31 ∧ w.ownsRow base 26 7 (.slice a X.length cap) X.length (cellsL En.cs X) ∧ X.map En.p = L ∧ (∀ e ∈ X, EnOk w e) ∧ (∀ e ∈ X, LnOff (.slice a X.length cap) e) ∧ ∀ g, (Value.slice a X.length cap).ownBlock = some g → g < top
theorem OutAt.after {base B top : Nat} {L : List EnP} {w w' : World} (h : OutAt base B top L w) (hb : Below w.heap.size w w') : OutAt base B top L w' := by
  obtain ⟨a, cap, X, h1, h2, h3, h4, h5, h6⟩ := h.ex
  exact ⟨a, cap, X, h1.after hb, own_after h2 hb, h3, fun e he => (h4 e he).after hb, h5, h6⟩
theorem OutAt.up {base B top : Nat} {L : List EnP} {w : World} (h : OutAt base B top L w) {top' : Nat} (ht : w.heap.size ≤ top') : OutAt base B top' L w := by
  obtain ⟨a, cap, X, h1, h2, h3, h4, h5, h6⟩ := h.ex
  exact ⟨a, cap, X, h1, h2, h3, h4, h5, fun g hg => by have := (own_cells h2 hg).2.1; omega⟩
theorem OutAt.new {w : World} {base : Nat} : OutAt base w.heap.size 0 [] (w.alloc (.cells #[.slice none 0 0] 31)) :=
  ⟨none, 0, [], Blk.new _ _ _, World.ownsRow_nil _ _ _ _, rfl, fun e he => by simp at he, fun e he => by simp at he, fun g hg => by simp [Value.ownBlock] at hg⟩
theorem sl_no_int {w : World} {B i : Nat} {n : Int} {a : Option Addr} {k c : Nat} {T : TypeId} (h : Blk w B #[.slice a k c] T) : w.cell? ⟨B, i, none⟩ ≠ some (.int .i64 n) := fun e => by
  have hb : w.heap[B]? = some (.cells #[.slice a k c] T (0, 0)) := h
  simp only [World.cell?, hb] at e
  rcases i with _ | i
  · simp at e
  · simp at e
theorem EnOk.setSl {w : World} {B : Nat} {a : Option Addr} {k c : Nat} {T : TypeId} {e : En} (he : EnOk w e) (h : Blk w B #[.slice a k c] T) (v : Value) : EnOk (w.setCell ⟨B, 0, none⟩ v) e := by
  refine ⟨fun hl => ?_, he.wf, he.few, he.nil⟩
  obtain ⟨b, o, e1, hc⟩ := he.ln hl
  have hn : b ≠ B := fun e => by subst e; exact sl_no_int h (hc 0 hl).1
  exact ⟨b, o, e1, fun i hi => ⟨set_far (hc i hi).1 hn, set_far (hc i hi).2.1 hn, set_far (hc i hi).2.2 hn⟩⟩
theorem OutAt.put {base B top : Nat} {L : List EnP} {w wA wG : World} {a : Option Addr} {cap g c3 : Nat} {X : List En} {y : En} (hB : Blk w B #[.slice a X.length cap] 31) (hO : w.ownsRow base 26 7 (.slice a X.length cap) X.length (cellsL En.cs X)) (hX : X.map En.p = L) (hok : ∀ e ∈ X, EnOk w e) (hoff : ∀ e ∈ X, LnOff (.slice a X.length cap) e)
    (hlt : ∀ g, (Value.slice a X.length cap).ownBlock = some g → g < top) (hbB : base ≤ B) (hy : EnOk w y) (hn : ∀ x, y.a = some x → top ≤ x.block) (hA : Below w.heap.size w wA)
    (hG : wG.ownsRow base 26 7 (.slice (some ⟨g, 0, none⟩) (X.length + 1) c3) (X.length + 1) (cellsL En.cs X ++ y.cs)) (hgrow : wA.grownBy wG (Value.slice a X.length cap).ownBlock) (hat : (Value.slice a X.length cap).ownBlock = some g ∨ g = wA.heap.size) :
    OutAt base B (wG.setCell ⟨B, 0, none⟩ (.slice (some ⟨g, 0, none⟩) (X.length + 1) c3)).heap.size (L ++ [y.p]) (wG.setCell ⟨B, 0, none⟩ (.slice (some ⟨g, 0, none⟩) (X.length + 1) c3)) ∧ Below base w (wG.setCell ⟨B, 0, none⟩ (.slice (some ⟨g, 0, none⟩) (X.length + 1) c3))
      ∧ ∀ C cs T, Blk w C cs T → T ≠ 26 → C ≠ B → Blk (wG.setCell ⟨B, 0, none⟩ (.slice (some ⟨g, 0, none⟩) (X.length + 1) c3)) C cs T := by
  have hokA : ∀ e ∈ X ++ [y], EnOk wA e := fun e he => by
    rcases List.mem_append.1 he with h1 | h1
    · exact (hok e h1).after hA
    · rw [List.mem_singleton.1 h1]; exact hy.after hA
  have hfA : ∀ e ∈ X ++ [y], LnOff (.slice a X.length cap) e := fun e he => by
    rcases List.mem_append.1 he with h1 | h1
    · exact hoff e h1
    · rw [List.mem_singleton.1 h1]
      intro x hx hl hv
      have h1 := hlt _ hv
      have h2 := hn x hx
      omega
  have hBA := hB.after hA
  have hOA := own_after hO hA
  have kG : Blk wG B #[.slice a X.length cap] 31 := hBA.grown hgrow (hBA.own_ne hOA (by decide))
  have hokG : ∀ e ∈ X ++ [y], EnOk wG e := fun e he => by
    refine ⟨fun hl => ?_, (hokA e he).wf, (hokA e he).few, (hokA e he).nil⟩
    obtain ⟨b, o, e1, hc⟩ := (hokA e he).ln hl
    have hne := hfA e he _ e1 hl
    exact ⟨b, o, e1, fun i hi => ⟨grown_cell hgrow (hc i hi).1 hne, grown_cell hgrow (hc i hi).2.1 hne, grown_cell hgrow (hc i hi).2.2 hne⟩⟩
  have hlen : (X ++ [y]).length = X.length + 1 := by simp
  have hown2 : (wG.setCell ⟨B, 0, none⟩ (.slice (some ⟨g, 0, none⟩) (X.length + 1) c3)).ownsRow base 26 7 (.slice (some ⟨g, 0, none⟩) (X ++ [y]).length c3) (X ++ [y]).length (cellsL En.cs (X ++ [y])) := by
    rw [hlen, cellsL_snoc]
    exact hG.kept (grown_setCell wG B 0 _) (Or.inr (kG.own_ne hG (by decide)))
  have hbz : base ≤ w.heap.size := Nat.le_trans hbB (Nat.le_of_lt hB.lt)
  refine ⟨⟨some ⟨g, 0, none⟩, c3, X ++ [y], ?_, hown2, by rw [List.map_append, hX]; rfl, fun e he => (hokG e he).setSl kG _, fun e he x hx hl hg => ?_, fun q hq => (own_cells hown2 hq).2.1⟩, ?_, fun C cs T hC hT hne => ?_⟩
  · rw [hlen]; exact kG.set 0 _
  · simp only [Value.ownBlock, Option.some.injEq] at hg
    rcases hat with h1 | h1
    · exact hfA e he x hx hl (by rw [h1, hg])
    · have := (hokA e he).ln.lt hl x hx
      omega
  · have h1 : Below base w wA := hA.mono hbz
    exact (h1.grown hgrow (by have := hA.size; omega) (fun q e => (own_cells hO e).1)).setCell (p := ⟨B, 0, none⟩) hbB _
  · have hCA := hC.after hA
    exact (hCA.grown hgrow (hCA.own_ne hOA hT)).far 0 _ hne

def PutEnd (base B : Nat) (L : List EnP) (y : En) (n : Int) (w : World) (e : Ending) (w' : World) : Prop :=
  e = .returned (.int .i64 n) ∧ OutAt base B w'.heap.size (L ++ [y.p]) w' ∧ Below base w w' ∧ ∀ C cs T, Blk w C cs T → T ≠ 26 → C ≠ B → Blk w' C cs T

set_option maxHeartbeats 4000000 in
theorem put_ok (base B top : Nat) (L : List EnP) (y : En) (n : Int) (w : World) (h : OutAt base B top L w) (hbB : base ≤ B) (hl : L.length ≤ 1000) (hy : EnOk w y) (hn : ∀ x, y.a = some x → top ≤ x.block) :
    Calls Tryd.prog 21 #[entV y.s y.a y.ls.length y.cap, .int .i64 n, .pointer (some ⟨B, 0, none⟩)] w (PutEnd base B L y n w) := by
  obtain ⟨v0, hv, hv0, hv1, hv2⟩ := info_parts infoEntE
  obtain ⟨⟨con, day, cur, sq, pr, ref⟩, la, lc, ls⟩ := y
  obtain ⟨a, cap, X, hB, hO, hX, hok, hoff, hlt⟩ := h.ex
  have hxl : X.length ≤ 1000 := by rw [← hX, List.length_map] at hl; exact hl
  dsimp only [entV]
  obtain ⟨w0, hw0⟩ : ∃ W, w.alloc (.cells #[.int .i64 con, .int .i64 day, .int .i64 cur, .int .i64 sq, .int .i64 pr, .int .i64 ref, .slice la ls.length lc] 26) = W := ⟨_, rfl⟩
  have hb0 : Below w.heap.size w w0 := by rw [← hw0]; exact (Below.refl _ _).alloc (Nat.le_refl _) _
  have K0 : Blk w0 w.heap.size #[.int .i64 con, .int .i64 day, .int .i64 cur, .int .i64 sq, .int .i64 pr, .int .i64 ref, .slice la ls.length lc] 26 := by rw [← hw0]; exact Blk.new _ _ _
  have b0 : w0.cell? ⟨B, 0, none⟩ = some (.slice a X.length cap) := (hB.after hb0).cell 0 rfl
  have q0 : w0.cell? ⟨w.heap.size, 0, none⟩ = some (.int .i64 con) := K0.cell 0 rfl
  have q1 : w0.cell? ⟨w.heap.size, 1, none⟩ = some (.int .i64 day) := K0.cell 1 rfl
  have q2 : w0.cell? ⟨w.heap.size, 2, none⟩ = some (.int .i64 cur) := K0.cell 2 rfl
  have q3 : w0.cell? ⟨w.heap.size, 3, none⟩ = some (.int .i64 sq) := K0.cell 3 rfl
  have q4 : w0.cell? ⟨w.heap.size, 4, none⟩ = some (.int .i64 pr) := K0.cell 4 rfl
  have q5 : w0.cell? ⟨w.heap.size, 5, none⟩ = some (.int .i64 ref) := K0.cell 5 rfl
  have q6 : w0.cell? ⟨w.heap.size, 6, none⟩ = some (.slice la ls.length lc) := K0.cell 6 rfl
  have zB := hB.lt
  have z0 := hb0.size
  have HB := Lib.hid hB
  have HO := Lib.hid hO
  have HX := Lib.hid hX
  have HK := Lib.hid hok
  have HF := Lib.hid hoff
  have HT := Lib.hid hlt
  have HY := Lib.hid hy
  have HN := Lib.hid hn
  have HB0 := Lib.hid hb0
  obtain ⟨wA, hwA⟩ : ∃ W, w0.alloc (.cells #[.int .i64 con, .int .i64 day, .int .i64 cur, .int .i64 sq, .int .i64 pr, .int .i64 ref, .slice la ls.length lc] 26) = W := ⟨_, rfl⟩
  have bA : Below w0.heap.size w0 wA := by rw [← hwA]; exact (Below.refl _ _).alloc (Nat.le_refl _) _
  have hnw := heap_alloc_new w0 (.cells #[.int .i64 con, .int .i64 day, .int .i64 cur, .int .i64 sq, .int .i64 pr, .int .i64 ref, .slice la ls.length lc] 26)
  rw [hwA] at hnw
  have ZA := Lib.hid (show wA.heap.size = w0.heap.size + 1 by rw [← hwA]; simp)
  have HA := Lib.hid bA
  clear h hB hO hX hok hoff hlt hy hn hb0 K0 bA
  go_enter Tryd.func21, Tryd.ntmps21
  go_wp2_with (at_builtin; refine wpList_append_lies _ rfl (.tmp 6) (.tmp 8) 31 rfl base 26 v0 _ 7 72 Tryd.underlying31 hv hv0 hv1 hv2 rfl (by decide) _ X.length _ rfl (own_after (own_after HO.out HB0.out) HA.out) ⟨w0.heap.size, 0, none⟩ 1 1 [.int .i64 con, .int .i64 day, .int .i64 cur, .int .i64 sq, .int .i64 pr, .int .i64 ref, .slice la ls.length lc] rfl rfl (World.news_of_block (cs := #[.int .i64 con, .int .i64 day, .int .i64 cur, .int .i64 sq, .int .i64 pr, .int .i64 ref, .slice la ls.length lc]) (t := 26) (fr := (0, 0)) hnw) (by simp [Value.oneCell']) (by omega) (by unfold maxLen; omega) (by omega) (by have := ZA.out; omega) _ rfl ?_; intro g c3 wG hown hgrow hat hgt; have hgrow : wA.grownBy wG (Value.slice a X.length cap).ownBlock := hgrow; have HR := OutAt.put (y := ⟨⟨con, day, cur, sq, pr, ref⟩, la, lc, ls⟩) HB.out HO.out HX.out HK.out HF.out HT.out hbB HY.out HN.out (HB0.out.trans (HA.out.mono HB0.out.size)) hown hgrow hat; have HBG : Blk wG B #[.slice a X.length cap] 31 := ((HB.out.after HB0.out).after HA.out).grown hgrow (((HB.out.after HB0.out).after HA.out).own_ne (own_after (own_after HO.out HB0.out) HA.out) (by decide)); have mb : wG.cell? ⟨B, 0, none⟩ = some (.slice a X.length cap) := HBG.cell 0 rfl; have mf : wG.frozen? ⟨B, 0, none⟩ = false := HBG.free 0; have HR1 := Lib.hid HR; clear HR HBG hown hgrow hat hgt)
  go_ret
  exact ⟨rfl, HR1.out.1, HR1.out.2.1, HR1.out.2.2⟩

end Go.Proofs.YtmjgcenhgpkhiaaDoor
