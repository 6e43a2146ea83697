/- chattellaw14.Few. -/
import Derived.Test.YtmjgcenhgpkhiaaDoorEntI
import Derived.Test.YtmjgcenhgpkhiaaDoorMgD
import Derived.Test.YtmjgcenhgpkhiaaDoorMgC
namespace Go.Proofs.YtmjgcenhgpkhiaaDoor
open Go.RowKit
set_option linter.unusedVariables false
set_option linter.unusedSimpArgs false

theorem few_ok (s : Six) (a : Option Addr) (cap n : Nat) (w : World) (hn : n ≤ 9223372036854775807) : Calls Tryd.prog 6 #[entV s a n cap] w fun e w' => e = .returned (.bool (decide (n ≤ 20))) ∧ Below w.heap.size w w' := by
  have hbx := Blk.new w (entCs s a n cap) 26
  have b6 : (w.alloc (.cells (entCs s a n cap) 26)).cell? ⟨w.heap.size, 6, none⟩ = some (.slice a n cap) := hbx.cell 6 rfl
  unfold entCs at b6
  clear hbx
  unfold entV
  go_enter Tryd.func6, Tryd.ntmps6
  go_wp2_with fail
  go_ret
  exact ⟨ret_bool (by rw [Bool.eq_iff_iff]; simp; try omega), (Below.refl _ _).alloc (Nat.le_refl _) _⟩

end Go.Proofs.YtmjgcenhgpkhiaaDoor
namespace Go.Proofs.YtmjgcenhgpkhiaaDoor
open Go.RowKit Go.Sort Go.Shelf
set_option linter.unusedVariables false
set_option linter.unusedSimpArgs false
set_option maxRecDepth 100000

theorem infoEntE : (Tryd.prog.info? 26).map (fun i => (i.zero, i.size, i.bytes)) = some (some (.agg #[.int .i64 0, .int .i64 0, .int .i64 0, .int .i64 0, .int .i64 0, .int .i64 0, .slice none 0 0]), 7, 72) := by kernel_rfl
theorem En.len7 (e : En) : e.cs.length = 7 := rfl
theorem En.one7 : ∀ e : En, ∀ v ∈ e.cs, v.oneCell' = true := fun e v hv => by simp [En.cs] at hv; rcases hv with rfl | rfl | rfl | rfl | rfl | rfl | rfl <;> rfl
def LnOff (v : Value) (e : En) : Prop := ∀ x, e.a = some x → 0 < e.ls.length → v.ownBlock ≠ some x.block
/-- Entries that are put in a variable that closures share. -/
structure OutAt (base B top : Nat) (L : List EnP) (w : World) : Prop where
  ex : ∃ (a : Option Addr) (cap : Nat) (X : List En), Blk w B #[.slice a X.length cap] 31 ∧ w.ownsRow base 26 7 (.slice a X.length cap) X.length (cellsL En.cs X) ∧ X.map En.p = L ∧ (∀ e ∈ X, EnOk w e) ∧ (∀ e ∈ X, LnOff (.slice a X.length cap) e) ∧ ∀ g, (Value.slice a X.length cap).ownBlock = some g → g < top
theorem OutAt.after {base B top : Nat} {L : List EnP} {w w' : World} (h : OutAt base B top L w) (hb : Below w.heap.size w w') : OutAt base B top L w' := by
  obtain ⟨a, cap, X, h1, h2, h3, h4, h5, h6⟩ := h.ex
  exact ⟨a, cap, X, h1.after hb, own_after h2 hb, h3, fun e he => (h4 e he).after hb, h5, h6⟩
theorem OutAt.up {base B top : Nat} {L : List EnP} {w : World} (h : OutAt base B top L w) {top' : Nat} (ht : w.heap.size ≤ top') : OutAt base B top' L w := by
  obtain ⟨a, cap, X, h1, h2, h3, h4, h5, h6⟩ := h.ex
  exact ⟨a, cap, X, h1, h2, h3, h4, h5, fun g hg => by have := (own_cells h2 hg).2.1; omega⟩
theorem OutAt.new {w : World} {base : Nat} : OutAt base w.heap.size 0 [] (w.alloc (.cells #[.slice none 0 0] 31)) :=
  ⟨none, 0, [], Blk.new _ _ _, World.ownsRow_nil _ _ _ _, rfl, fun e he => by simp at he, fun e he => by simp at he, fun g hg => by simp [Value.ownBlock] at hg⟩
theorem sl_no_int {w : World} {B i : Nat} {n : Int} {a : Option Addr} {k c : Nat} {T : TypeId} (h : Blk w B #[.slice a k c] T) : w.cell? ⟨B, i, none⟩ ≠ some (.int .i64 n) := fun e => by
  have hb : w.heap[B]? = some (.cells #[.slice a k c] T (0, 0)) := h
  simp only [World.cell?, hb] at e
  rcases i with _ | i
  · simp at e
  · simp at e
theorem EnOk.setSl {w : World} {B : Nat} {a : Option Addr} {k c : Nat} {T : TypeId} {e : En} (he : EnOk w e) (h : Blk w B #[.slice a k c] T) (v : Value) : EnOk (w.setCell ⟨B, 0, none⟩ v) e := by
  refine ⟨fun hl => ?_, he.wf, he.few, he.nil⟩
  obtain ⟨b, o, e1, hc⟩ := he.ln hl
  have hn : b ≠ B := fun e => by subst e; exact sl_no_int h (hc 0 hl).1
  exact ⟨b, o, e1, fun i hi => ⟨set_far (hc i hi).1 hn, set_far (hc i hi).2.1 hn, set_far (hc i hi).2.2 hn⟩⟩
theorem OutAt.put {base B top : Nat} {L : List EnP} {w wA wG : World} {a : Option Addr} {cap g c3 : Nat} {X : List En} {y : En} (hB : Blk w B #[.slice a X.length cap] 31) (hO : w.ownsRow base 26 7 (.slice a X.length cap) X.length (cellsL En.cs X)) (hX : X.map En.p = L) (hok : ∀ e ∈ X, EnOk w e) (hoff : ∀ e ∈ X, LnOff (.slice a X.length cap) e)
    (hlt : ∀ g, (Value.slice a X.length cap).ownBlock = some g → g < top) (hbB : base ≤ B) (hy : EnOk w y) (hn : ∀ x, y.a = some x → top ≤ x.block) (hA : Below w.heap.size w wA)
    (hG : wG.ownsRow base 26 7 (.slice (some ⟨g, 0, none⟩) (X.length + 1) c3) (X.length + 1) (cellsL En.cs X ++ y.cs)) (hgrow : wA.grownBy wG (Value.slice a X.length cap).ownBlock) (hat : (Value.slice a X.length cap).ownBlock = some g ∨ g = wA.heap.size) :
    OutAt base B (wG.setCell ⟨B, 0, none⟩ (.slice (some ⟨g, 0, none⟩) (X.length + 1) c3)).heap.size (L ++ [y.p]) (wG.setCell ⟨B, 0, none⟩ (.slice (some ⟨g, 0, none⟩) (X.length + 1) c3)) ∧ Below base w (wG.setCell ⟨B, 0, none⟩ (.slice (some ⟨g, 0, none⟩) (X.length + 1) c3))
      ∧ ∀ C cs T, Blk w C cs T → T ≠ 26 → C ≠ B → Blk (wG.setCell ⟨B, 0, none⟩ (.slice (some ⟨g, 0, none⟩) (X.length + 1) c3)) C cs T := by
  have hokA : ∀ e ∈ X ++ [y], EnOk wA e := fun e he => by
    rcases List.mem_append.1 he with h1 | h1
    · exact (hok e h1).after hA
    · rw [List.mem_singleton.1 h1]; exact hy.after hA
  have hfA : ∀ e ∈ X ++ [y], LnOff (.slice a X.length cap) e := fun e he => by
    rcases List.mem_append.1 he with h1 | h1
    · exact hoff e h1
    · rw [List.mem_singleton.1 h1]
      intro x hx hl hv
      have h1 := hlt _ hv
      have h2 := hn x hx
      omega
  have hBA := hB.after hA
  have hOA := own_after hO hA
  have kG : Blk wG B #[.slice a X.length cap] 31 := hBA.grown hgrow (hBA.own_ne hOA (by decide))
  have hokG : ∀ e ∈ X ++ [y], EnOk wG e := fun e he => by
    refine ⟨fun hl => ?_, (hokA e he).wf, (hokA e he).few, (hokA e he).nil⟩
    obtain ⟨b, o, e1, hc⟩ := (hokA e he).ln hl
    have hne := hfA e he _ e1 hl
    exact ⟨b, o, e1, fun i hi => ⟨grown_cell hgrow (hc i hi).1 hne, grown_cell hgrow (hc i hi).2.1 hne, grown_cell hgrow (hc i hi).2.2 hne⟩⟩
  have hlen : (X ++ [y]).length = X.length + 1 := by simp
  have hown2 : (wG.setCell ⟨B, 0, none⟩ (.slice (some ⟨g, 0, none⟩) (X.length + 1) c3)).ownsRow base 26 7 (.slice (some ⟨g, 0, none⟩) (X ++ [y]).length c3) (X ++ [y]).length (cellsL En.cs (X ++ [y])) := by
    rw [hlen, cellsL_snoc]
    exact hG.kept (grown_setCell wG B 0 _) (Or.inr (kG.own_ne hG (by decide)))
  have hbz : base ≤ w.heap.size := Nat.le_trans hbB (Nat.le_of_lt hB.lt)
  refine ⟨⟨some ⟨g, 0, none⟩, c3, X ++ [y], ?_, hown2, by rw [List.map_append, hX]; rfl, fun e he => (hokG e he).setSl kG _, fun e he x hx hl hg => ?_, fun q hq => (own_cells hown2 hq).2.1⟩, ?_, fun C cs T hC hT hne => ?_⟩
  · rw [hlen]; exact kG.set 0 _
  · simp only [Value.ownBlock, Option.some.injEq] at hg
    rcases hat with h1 | h1
    · exact hfA e he x hx hl (by rw [h1, hg])
    · have := (hokA e he).ln.lt hl x hx
      omega
  · have h1 : Below base w wA := hA.mono hbz
    exact (h1.grown hgrow (by have := hA.size; omega) (fun q e => (own_cells hO e).1)).setCell (p := ⟨B, 0, none⟩) hbB _
  · have hCA := hC.after hA
    exact (hCA.grown hgrow (hCA.own_ne hOA hT)).far 0 _ hne

def PutEnd (base B : Nat) (L : List EnP) (y : En) (n : Int) (w : World) (e : Ending) (w' : World) : Prop :=
  e = .returned (.int .i64 n) ∧ OutAt base B w'.heap.size (L ++ [y.p]) w' ∧ Below base w w' ∧ ∀ C cs T, Blk w C cs T → T ≠ 26 → C ≠ B → Blk w' C cs T

set_option maxHeartbeats 4000000 in
theorem put_ok (base B top : Nat) (L : List EnP) (y : En) (n : Int) (w : World) (h : OutAt base B top L w) (hbB : base ≤ B) (hl : L.length ≤ 1000) (hy : EnOk w y) (hn : ∀ x, y.a = some x → top ≤ x.block) :
    Calls Tryd.prog 21 #[entV y.s y.a y.ls.length y.cap, .int .i64 n, .pointer (some ⟨B, 0, none⟩)] w (PutEnd base B L y n w) := by
  obtain ⟨v0, hv, hv0, hv1, hv2⟩ := info_parts infoEntE
  obtain ⟨⟨con, day, cur, sq, pr, ref⟩, la, lc, ls⟩ := y
  obtain ⟨a, cap, X, hB, hO, hX, hok, hoff, hlt⟩ := h.ex
  have hxl : X.length ≤ 1000 := by rw [← hX, List.length_map] at hl; exact hl
  dsimp only [entV]
  obtain ⟨w0, hw0⟩ : ∃ W, w.alloc (.cells #[.int .i64 con, .int .i64 day, .int .i64 cur, .int .i64 sq, .int .i64 pr, .int .i64 ref, .slice la ls.length lc] 26) = W := ⟨_, rfl⟩
  have hb0 : Below w.heap.size w w0 := by rw [← hw0]; exact (Below.refl _ _).alloc (Nat.le_refl _) _
  have K0 : Blk w0 w.heap.size #[.int .i64 con, .int .i64 day, .int .i64 cur, .int .i64 sq, .int .i64 pr, .int .i64 ref, .slice la ls.length lc] 26 := by rw [← hw0]; exact Blk.new _ _ _
  have b0 : w0.cell? ⟨B, 0, none⟩ = some (.slice a X.length cap) := (hB.after hb0).cell 0 rfl
  have q0 : w0.cell? ⟨w.heap.size, 0, none⟩ = some (.int .i64 con) := K0.cell 0 rfl
  have q1 : w0.cell? ⟨w.heap.size, 1, none⟩ = some (.int .i64 day) := K0.cell 1 rfl
  have q2 : w0.cell? ⟨w.heap.size, 2, none⟩ = some (.int .i64 cur) := K0.cell 2 rfl
  have q3 : w0.cell? ⟨w.heap.size, 3, none⟩ = some (.int .i64 sq) := K0.cell 3 rfl
  have q4 : w0.cell? ⟨w.heap.size, 4, none⟩ = some (.int .i64 pr) := K0.cell 4 rfl
  have q5 : w0.cell? ⟨w.heap.size, 5, none⟩ = some (.int .i64 ref) := K0.cell 5 rfl
  have q6 : w0.cell? ⟨w.heap.size, 6, none⟩ = some (.slice la ls.length lc) := K0.cell 6 rfl
  have zB := hB.lt
  have z0 := hb0.size
  have HB := Lib.hid hB
  have HO := Lib.hid hO
  have HX := Lib.hid hX
  have HK := Lib.hid hok
  have HF := Lib.hid hoff
  have HT := Lib.hid hlt
  have HY := Lib.hid hy
  have HN := Lib.hid hn
  have HB0 := Lib.hid hb0
  obtain ⟨wA, hwA⟩ : ∃ W, w0.alloc (.cells #[.int .i64 con, .int .i64 day, .int .i64 cur, .int .i64 sq, .int .i64 pr, .int .i64 ref, .slice la ls.length lc] 26) = W := ⟨_, rfl⟩
  have bA : Below w0.heap.size w0 wA := by rw [← hwA]; exact (Below.refl _ _).alloc (Nat.le_refl _) _
  have hnw := heap_alloc_new w0 (.cells #[.int .i64 con, .int .i64 day, .int .i64 cur, .int .i64 sq, .int .i64 pr, .int .i64 ref, .slice la ls.length lc] 26)
  rw [hwA] at hnw
  have ZA := Lib.hid (show wA.heap.size = w0.heap.size + 1 by rw [← hwA]; simp)
  have HA := Lib.hid bA
  clear h hB hO hX hok hoff hlt hy hn hb0 K0 bA
  go_enter Tryd.func21, Tryd.ntmps21
  go_wp2_with (at_builtin; refine wpList_append_lies _ rfl (.tmp 6) (.tmp 8) 31 rfl base 26 v0 _ 7 72 Tryd.underlying31 hv hv0 hv1 hv2 rfl (by decide) _ X.length _ rfl (own_after (own_after HO.out HB0.out) HA.out) ⟨w0.heap.size, 0, none⟩ 1 1 [.int .i64 con, .int .i64 day, .int .i64 cur, .int .i64 sq, .int .i64 pr, .int .i64 ref, .slice la ls.length lc] rfl rfl (World.news_of_block (cs := #[.int .i64 con, .int .i64 day, .int .i64 cur, .int .i64 sq, .int .i64 pr, .int .i64 ref, .slice la ls.length lc]) (t := 26) (fr := (0, 0)) hnw) (by simp [Value.oneCell']) (by omega) (by unfold maxLen; omega) (by omega) (by have := ZA.out; omega) _ rfl ?_; intro g c3 wG hown hgrow hat hgt; have hgrow : wA.grownBy wG (Value.slice a X.length cap).ownBlock := hgrow; have HR := OutAt.put (y := ⟨⟨con, day, cur, sq, pr, ref⟩, la, lc, ls⟩) HB.out HO.out HX.out HK.out HF.out HT.out hbB HY.out HN.out (HB0.out.trans (HA.out.mono HB0.out.size)) hown hgrow hat; have HBG : Blk wG B #[.slice a X.length cap] 31 := ((HB.out.after HB0.out).after HA.out).grown hgrow (((HB.out.after HB0.out).after HA.out).own_ne (own_after (own_after HO.out HB0.out) HA.out) (by decide)); have mb : wG.cell? ⟨B, 0, none⟩ = some (.slice a X.length cap) := HBG.cell 0 rfl; have mf : wG.frozen? ⟨B, 0, none⟩ = false := HBG.free 0; have HR1 := Lib.hid HR; clear HR HBG hown hgrow hat hgt)
  go_ret
  exact ⟨rfl, HR1.out.1, HR1.out.2.1, HR1.out.2.2⟩

end Go.Proofs.YtmjgcenhgpkhiaaDoor
namespace Go.Proofs.YtmjgcenhgpkhiaaDoor
set_option linter.unusedVariables false
set_option linter.unusedSimpArgs false

/-- A key and a day. -/
abbrev KD := Int × Int
def ltK (a b : KD) : Prop := a.1 < b.1 ∨ (a.1 = b.1 ∧ a.2 < b.2)
instance (a b : KD) : Decidable (ltK a b) := by unfold ltK; infer_instance
theorem ltK_trans {a b c : KD} (h : ltK a b) (k : ltK b c) : ltK a c := by unfold ltK at *; omega
theorem ltK_irrefl (a : KD) : ¬ ltK a a := by unfold ltK; omega
theorem ltK_total {a b : KD} (h : ¬ ltK a b) (k : a ≠ b) : ltK b a := by
  obtain ⟨a1, a2⟩ := a
  obtain ⟨b1, b2⟩ := b
  unfold ltK at *
  simp only [ne_eq, Prod.mk.injEq] at k h ⊢
  omega
theorem ltK_ne {a b : KD} (h : ltK a b) : a ≠ b := by rintro rfl; exact ltK_irrefl _ h

section
variable {α : Type} (ky : α → KD)
/-- In order of keys and days, each once. -/
def Rising (l : List α) : Prop := l.Pairwise fun a b => ltK (ky a) (ky b)
/-- One more, in place of another one of its key and day. -/
def putK : List α → α → List α
  | [], x => [x]
  | y :: l, x => if ltK (ky x) (ky y) then x :: y :: l else if ky y = ky x then x :: l else y :: putK l x

variable {ky}
theorem Rising.nil : Rising ky [] := List.Pairwise.nil
theorem putK_mem : ∀ {l : List α} {x z : α}, Rising ky l → (z ∈ putK ky l x ↔ z = x ∨ (z ∈ l ∧ ky z ≠ ky x))
  | [], x, z, _ => by simp [putK]
  | y :: l, x, z, h => by
    obtain ⟨h1, h2⟩ := List.pairwise_cons.1 h
    unfold putK
    split
    · rename_i hlt
      rw [List.mem_cons]
      constructor
      · rintro (rfl | hz)
        · exact Or.inl rfl
        · refine Or.inr ⟨hz, ?_⟩
          rcases List.mem_cons.1 hz with rfl | hz
          · exact (ltK_ne hlt).symm
          · exact (ltK_ne (ltK_trans hlt (h1 z hz))).symm
      · rintro (rfl | ⟨hz, _⟩)
        · exact Or.inl rfl
        · exact Or.inr hz
    · split
      · rename_i he
        rw [List.mem_cons, List.mem_cons]
        constructor
        · rintro (rfl | hz)
          · exact Or.inl rfl
          · exact Or.inr ⟨Or.inr hz, by rw [← he]; exact (ltK_ne (h1 z hz)).symm⟩
        · rintro (rfl | ⟨rfl | hz, hn⟩)
          · exact Or.inl rfl
          · exact absurd he hn
          · exact Or.inr hz
      · rename_i he
        rw [List.mem_cons, putK_mem h2, List.mem_cons]
        constructor
        · rintro (rfl | rfl | ⟨hz, hn⟩)
          · exact Or.inr ⟨Or.inl rfl, he⟩
          · exact Or.inl rfl
          · exact Or.inr ⟨Or.inr hz, hn⟩
        · rintro (rfl | ⟨rfl | hz, hn⟩)
          · exact Or.inr (Or.inl rfl)
          · exact Or.inl rfl
          · exact Or.inr (Or.inr ⟨hz, hn⟩)
theorem putK_rising : ∀ {l : List α} {x : α}, Rising ky l → Rising ky (putK ky l x)
  | [], x, _ => by simp [putK, Rising]
  | y :: l, x, h => by
    obtain ⟨h1, h2⟩ := List.pairwise_cons.1 h
    unfold putK
    split
    · rename_i hlt
      refine List.pairwise_cons.2 ⟨fun z hz => ?_, h⟩
      rcases List.mem_cons.1 hz with rfl | hz
      · exact hlt
      · exact ltK_trans hlt (h1 z hz)
    · rename_i hlt
      split
      · rename_i he
        exact List.pairwise_cons.2 ⟨fun z hz => by rw [← he]; exact h1 z hz, h2⟩
      · rename_i he
        refine List.pairwise_cons.2 ⟨fun z hz => ?_, putK_rising h2⟩
        rcases (putK_mem h2).1 hz with rfl | ⟨hz, _⟩
        · exact ltK_total hlt (fun e => he e.symm)
        · exact h1 z hz
theorem Rising.nodup {l : List α} (h : Rising ky l) : l.Nodup := List.Pairwise.imp (fun {a b} hab e => by subst e; exact ltK_irrefl _ hab) h
theorem Rising.keys {l : List α} (h : Rising ky l) : (l.map ky).Nodup := by
  rw [List.Nodup, List.pairwise_map]
  exact List.Pairwise.imp (fun {a b} hab e => by rw [e] at hab; exact ltK_irrefl _ hab) h
/-- Of a key and day there is one. -/
theorem Rising.one : ∀ {l : List α}, Rising ky l → ∀ {x y : α}, x ∈ l → y ∈ l → ky x = ky y → x = y
  | [], _, _, _, hx, _, _ => by cases hx
  | z :: l, h, x, y, hx, hy, e => by
    obtain ⟨h1, h2⟩ := List.pairwise_cons.1 h
    rcases List.mem_cons.1 hx with ex | hx'
    · rcases List.mem_cons.1 hy with ey | hy'
      · rw [ex, ey]
      · exact absurd e (by rw [ex]; exact ltK_ne (h1 y hy'))
    · rcases List.mem_cons.1 hy with ey | hy'
      · exact absurd e.symm (by rw [ey]; exact ltK_ne (h1 x hx'))
      · exact Rising.one h2 hx' hy' e
/-- Two rising lists of the same members are one. -/
theorem rising_ext : ∀ {l l' : List α}, Rising ky l → Rising ky l' → (∀ z, z ∈ l ↔ z ∈ l') → l = l'
  | [], [], _, _, _ => rfl
  | [], y :: l', _, _, h => by have := (h y).2 (by simp); cases this
  | x :: l, [], _, _, h => by have := (h x).1 (by simp); cases this
  | x :: l, y :: l', h, h', hm => by
    obtain ⟨h1, h2⟩ := List.pairwise_cons.1 h
    obtain ⟨g1, g2⟩ := List.pairwise_cons.1 h'
    have hxy : x = y := by
      rcases List.mem_cons.1 ((hm x).1 (by simp)) with e | hx
      · exact e
      · rcases List.mem_cons.1 ((hm y).2 (by simp)) with e | hy
        · exact e.symm
        · exact absurd (ltK_trans (g1 x hx) (h1 y hy)) (ltK_irrefl _)
    subst hxy
    rw [rising_ext h2 g2 fun z => ?_]
    constructor
    · intro hz
      rcases List.mem_cons.1 ((hm z).1 (List.mem_cons_of_mem _ hz)) with rfl | hz'
      · exact absurd (h1 z hz) (ltK_irrefl _)
      · exact hz'
    · intro hz
      rcases List.mem_cons.1 ((hm z).2 (List.mem_cons_of_mem _ hz)) with rfl | hz'
      · exact absurd (g1 z hz) (ltK_irrefl _)
      · exact hz'
theorem rising_perm {l l' : List α} (h : Rising ky l) (h' : Rising ky l') (p : l.Perm l') : l = l' := rising_ext h h' fun _ => p.mem_iff
/-- What is told of other places does not count for the order. -/
theorem putK_comm {l : List α} {x y : α} (h : Rising ky l) (hn : ky x ≠ ky y) : putK ky (putK ky l x) y = putK ky (putK ky l y) x := by
  refine rising_ext (putK_rising (putK_rising h)) (putK_rising (putK_rising h)) fun z => ?_
  rw [putK_mem (putK_rising h), putK_mem h, putK_mem (putK_rising h), putK_mem h]
  constructor
  · rintro (rfl | ⟨rfl | ⟨h1, h2⟩, h3⟩)
    · exact Or.inr ⟨Or.inl rfl, fun e => hn e.symm⟩
    · exact Or.inl rfl
    · exact Or.inr ⟨Or.inr ⟨h1, h3⟩, h2⟩
  · rintro (rfl | ⟨rfl | ⟨h1, h2⟩, h3⟩)
    · exact Or.inr ⟨Or.inl rfl, hn⟩
    · exact Or.inl rfl
    · exact Or.inr ⟨Or.inr ⟨h1, h3⟩, h2⟩
/-- What is there already. -/
theorem putK_there {l : List α} {x : α} (h : Rising ky l) (hx : x ∈ l) : putK ky l x = l := by
  refine rising_ext (putK_rising h) h fun z => ?_
  rw [putK_mem h]
  constructor
  · rintro (rfl | ⟨h1, _⟩)
    · exact hx
    · exact h1
  · intro hz
    by_cases e : ky z = ky x
    · exact Or.inl (h.one hz hx e)
    · exact Or.inr ⟨hz, e⟩
theorem putK_len (l : List α) (x : α) : (putK ky l x).length ≤ l.length + 1 := by
  induction l with
  | nil => simp [putK]
  | cons y l ih =>
    unfold putK
    split
    · simp
    · split
      · simp
      · simp; omega

/-- The one of a key and day. -/
def getK (ky : α → KD) (l : List α) (p : KD) : Option α := l.find? fun x => decide (ky x = p)
theorem getK_some {l : List α} {p : KD} {x : α} (h : getK ky l p = some x) : x ∈ l ∧ ky x = p := by
  unfold getK at h
  exact ⟨List.mem_of_find?_eq_some h, by simpa using List.find?_some h⟩
theorem getK_none {l : List α} {p : KD} (h : getK ky l p = none) : ∀ x ∈ l, ky x ≠ p := by
  unfold getK at h
  rw [List.find?_eq_none] at h
  intro x hx
  simpa using h x hx
theorem getK_of {l : List α} (h : Rising ky l) {x : α} (hx : x ∈ l) : getK ky l (ky x) = some x := by
  cases hg : getK ky l (ky x) with
  | none => exact absurd rfl (getK_none hg x hx)
  | some y =>
    obtain ⟨h1, h2⟩ := getK_some hg
    rw [h.one h1 hx h2]

/-- Sorted by the program: what the sort leaves of a rising list's members. -/
theorem rising_of_sorted {l l' : List α} (h : Rising ky l) (p : l'.Perm l) (hs : l'.Pairwise fun a b => ¬ ltK (ky b) (ky a)) : l' = l := by
  refine rising_perm ?_ h p
  have hn : (l'.map ky).Nodup := ((p.map ky).nodup_iff).2 h.keys
  rw [List.Nodup, List.pairwise_map] at hn
  refine List.Pairwise.imp₂ (fun a b h1 h2 => ?_) hs hn
  exact ltK_total h1 (Ne.symm h2)
end

/-! ### Facts -/
/-- A fixing. -/
structure Fx where
  k : Int
  d : Int
  n : Int
  m : Int
deriving instance DecidableEq for Fx
instance : Inhabited Fx := ⟨⟨0, 0, 0, 0⟩⟩
/-- A choice. -/
structure Ch where
  k : Int
  d : Int
  p : Int
deriving instance DecidableEq for Ch
instance : Inhabited Ch := ⟨⟨0, 0, 0⟩⟩
def Fx.ky (x : Fx) : KD := (x.k, x.d)
def Ch.ky (x : Ch) : KD := (x.k, x.d)
def encX (x : Fx) : List Value := [.int .i64 x.k, .int .i64 x.d, .int .i64 x.n, .int .i64 x.m]
def encH (x : Ch) : List Value := [.int .i64 x.k, .int .i64 x.d, .int .i64 x.p]
/-- .. with its place ahead. -/
def encEX (x : Fx) : List Value := [.int .i64 x.k, .int .i64 x.d, .int .i64 x.k, .int .i64 x.d, .int .i64 x.n, .int .i64 x.m]
def encEH (x : Ch) : List Value := [.int .i64 x.k, .int .i64 x.d, .int .i64 x.k, .int .i64 x.d, .int .i64 x.p]
/-- A place as a key of a map. -/
def plV (p : KD) : Value := .agg #[.int .i64 p.1, .int .i64 p.2]
theorem plV_inj {p q : KD} (h : plV p = plV q) : p = q := by
  obtain ⟨a, b⟩ := p
  obtain ⟨c, d⟩ := q
  simpa [plV] using h
def OkPl (v : Value) : Prop := ∃ p : KD, v = plV p
/-- Facts as a map's entries. -/
def entX (x : Fx) : Value × Value := (plV x.ky, .agg (encX x).toArray)
def entH (x : Ch) : Value × Value := (plV x.ky, .agg (encH x).toArray)

end Go.Proofs.YtmjgcenhgpkhiaaDoor
namespace Go.Proofs.YtmjgcenhgpkhiaaDoor
set_option linter.unusedVariables false
set_option linter.unusedSimpArgs false

/-- A live amount; a flow; a change. -/
structure Lv where
  no : Int
  d : Int
  c : Int
  a : Int
deriving DecidableEq, Inhabited
structure Fl where
  d : Int
  c : Int
  a : Int
deriving DecidableEq, Inhabited
structure Cg where
  no : Int
  d : Int
  c : Int
  o : Int
  n : Int
deriving DecidableEq, Inhabited
def Lv.ky (x : Lv) : KD := (x.d, x.c)
def Fl.ky (x : Fl) : KD := (x.d, x.c)
def Cg.ky (x : Cg) : KD := (x.d, x.c)

/-- What is wrong with live amounts. -/
def ckE (l : List Lv) : Int := if (∃ x ∈ l, x.no < 0) then 10 else if (∃ x ∈ l, x.a = 0) then 13 else if (l.map Lv.ky).Nodup ∧ (l.map Lv.no).Nodup then 0 else 17
theorem ckE_ok {l : List Lv} (h : ckE l = 0) : (∀ x ∈ l, 0 ≤ x.no) ∧ (∀ x ∈ l, x.a ≠ 0) ∧ (l.map Lv.ky).Nodup ∧ (l.map Lv.no).Nodup := by
  unfold ckE at h
  split at h
  · cases h
  · rename_i h1
    split at h
    · cases h
    · rename_i h2
      split at h
      · rename_i h3
        exact ⟨fun x hx => Int.not_lt.1 fun hn => h1 ⟨x, hx, hn⟩, fun x hx e => h2 ⟨x, hx, e⟩, h3⟩
      · cases h
theorem ckE_of {l : List Lv} (h1 : ∀ x ∈ l, 0 ≤ x.no) (h2 : ∀ x ∈ l, x.a ≠ 0) (h3 : (l.map Lv.ky).Nodup) (h4 : (l.map Lv.no).Nodup) : ckE l = 0 := by
  unfold ckE
  rw [if_neg (fun ⟨x, hx, hn⟩ => by have := h1 x hx; omega), if_neg (fun ⟨x, hx, e⟩ => h2 x hx e), if_pos ⟨h3, h4⟩]
theorem ckE_perm {l l' : List Lv} (p : l.Perm l') : ckE l = ckE l' := by
  unfold ckE
  have e1 : (∃ x ∈ l, x.no < 0) ↔ ∃ x ∈ l', x.no < 0 := ⟨fun ⟨x, hx, h⟩ => ⟨x, p.mem_iff.1 hx, h⟩, fun ⟨x, hx, h⟩ => ⟨x, p.mem_iff.2 hx, h⟩⟩
  have e2 : (∃ x ∈ l, x.a = 0) ↔ ∃ x ∈ l', x.a = 0 := ⟨fun ⟨x, hx, h⟩ => ⟨x, p.mem_iff.1 hx, h⟩, fun ⟨x, hx, h⟩ => ⟨x, p.mem_iff.2 hx, h⟩⟩
  have e3 : (l.map Lv.ky).Nodup ↔ (l'.map Lv.ky).Nodup := (p.map _).nodup_iff
  have e4 : (l.map Lv.no).Nodup ↔ (l'.map Lv.no).Nodup := (p.map _).nodup_iff
  simp only [e1, e2, e3, e4]
/-- Whether flows are in order. -/
def ordB (w : List Fl) : Bool := decide (∀ x ∈ w, x.a ≠ 0) && decide (w.Pairwise fun x y => ltK x.ky y.ky)
theorem ordB_ok {w : List Fl} (h : ordB w = true) : (∀ x ∈ w, x.a ≠ 0) ∧ Rising Fl.ky w := by
  simpa [ordB, Rising] using h
theorem ordB_of {w : List Fl} (h1 : ∀ x ∈ w, x.a ≠ 0) (h2 : Rising Fl.ky w) : ordB w = true := by
  simp only [ordB, Bool.and_eq_true, decide_eq_true_eq]
  exact ⟨h1, h2⟩
def ordE (w : List Fl) : Int := if ordB w = true then 0 else 13

/-- The amount that is wanted at a place; nought: none is. -/
def wantAt (w : List Fl) (k : KD) : Int := match w.find? (fun x => decide (x.ky = k)) with | none => 0 | some x => x.a
theorem wantAt_in {w : List Fl} (hr : Rising Fl.ky w) {y : Fl} (hy : y ∈ w) : wantAt w y.ky = y.a := by
  unfold wantAt
  cases hf : w.find? (fun x => decide (x.ky = y.ky)) with
  | none => exact absurd (show y.ky = y.ky from rfl) (by have := List.find?_eq_none.1 hf y hy; simp at this)
  | some x =>
    have h1 := List.mem_of_find?_eq_some hf
    have h2 : x.ky = y.ky := by simpa using List.find?_some hf
    rw [hr.one h1 hy h2]
theorem wantAt_out {w : List Fl} {k : KD} (h : ∀ y ∈ w, y.ky ≠ k) : wantAt w k = 0 := by
  unfold wantAt
  rw [List.find?_eq_none.2 (fun y hy => by simpa using h y hy)]
/-- A change that there is, turning something or not. -/
def AllC (l : List Lv) (w : List Fl) (c : Cg) : Prop := (∃ x ∈ l, c = ⟨x.no, x.d, x.c, x.a, wantAt w x.ky⟩) ∨ (∃ y ∈ w, (∀ x ∈ l, x.ky ≠ y.ky) ∧ c = ⟨-1, y.d, y.c, 0, y.a⟩)
/-- The changes of a plan. -/
def InPlan (l : List Lv) (w : List Fl) (c : Cg) : Prop := AllC l w c ∧ c.o ≠ c.n
/-- A list is the plan. -/
structure IsPlan (l : List Lv) (w : List Fl) (p : List Cg) : Prop where
  ra : Rising Cg.ky p
  mem : ∀ c, c ∈ p ↔ InPlan l w c
theorem IsPlan.one {l : List Lv} {w : List Fl} {p q : List Cg} (h : IsPlan l w p) (k : IsPlan l w q) : p = q := rising_ext h.ra k.ra fun c => (h.mem c).trans (k.mem c).symm
/-- One more flow in the map of changes. -/
def updC (C : List Cg) (x : Fl) : List Cg := match C.find? (fun c => decide (c.ky = x.ky)) with
  | none => ⟨-1, x.d, x.c, 0, x.a⟩ :: C.filter (fun c => decide (c.ky ≠ x.ky))
  | some c => ⟨c.no, c.d, c.c, c.o, x.a⟩ :: C.filter (fun c => decide (c.ky ≠ x.ky))
def liveC (x : Lv) : Cg := ⟨x.no, x.d, x.c, x.a, 0⟩
theorem updC_keys {C : List Cg} {x : Fl} (h : (C.map Cg.ky).Nodup) : ((updC C x).map Cg.ky).Nodup := by
  have hf : ((C.filter fun c => decide (c.ky ≠ x.ky)).map Cg.ky).Nodup := h.sublist (List.filter_sublist.map _)
  have hn : x.ky ∉ (C.filter fun c => decide (c.ky ≠ x.ky)).map Cg.ky := fun hm => by
    obtain ⟨c, hc, e⟩ := List.mem_map.1 hm
    have := (List.mem_filter.1 hc).2
    simp [e] at this
  unfold updC
  cases hg : C.find? (fun c => decide (c.ky = x.ky)) with
  | none => exact List.nodup_cons.2 ⟨hn, hf⟩
  | some c =>
    have e : c.ky = x.ky := by simpa using List.find?_some hg
    refine List.nodup_cons.2 ⟨?_, hf⟩
    show c.ky ∉ _
    rw [e]
    exact hn
/-- The map's changes, behind some of the flows. -/
theorem foldC {l : List Lv} (hl : (l.map Lv.ky).Nodup) : ∀ (w : List Fl), Rising Fl.ky w → ∀ C : List Cg, (C.map Cg.ky).Nodup → (∀ c, c ∈ C ↔ AllC l w c) → ∀ x : Fl, (∀ y ∈ w, ltK y.ky x.ky) → ∀ c, c ∈ updC C x ↔ AllC l (w ++ [x]) c := by
  intro w hw C hC hm x hx c
  have hR : Rising Fl.ky (w ++ [x]) := List.pairwise_append.2 ⟨hw, by simp, fun y hy z hz => by rw [List.mem_singleton.1 hz]; exact hx y hy⟩
  have hwn : ∀ y ∈ w, y.ky ≠ x.ky := fun y hy => ltK_ne (hx y hy)
  have hat : ∀ k : KD, k ≠ x.ky → wantAt (w ++ [x]) k = wantAt w k := fun k hk => by
    unfold wantAt
    rw [List.find?_append]
    cases hf : w.find? (fun x => decide (x.ky = k)) with
    | none => simp [Ne.symm hk]
    | some y => rfl
  have hatx : wantAt (w ++ [x]) x.ky = x.a := wantAt_in hR (by simp)
  have hkey : ∀ c, AllC l w c → (∃ z ∈ l, z.ky = c.ky) ∨ (∃ y ∈ w, y.ky = c.ky) := fun c h => by
    rcases h with ⟨z, hz, rfl⟩ | ⟨y, hy, _, rfl⟩
    · exact .inl ⟨z, hz, rfl⟩
    · exact .inr ⟨y, hy, rfl⟩
  have hold : ∀ c : Cg, c.ky ≠ x.ky → (AllC l (w ++ [x]) c ↔ AllC l w c) := fun c hc => by
    constructor
    · rintro (⟨z, hz, rfl⟩ | ⟨y, hy, h2, rfl⟩)
      · exact .inl ⟨z, hz, by rw [hat z.ky hc]⟩
      · rcases List.mem_append.1 hy with hy | hy
        · exact .inr ⟨y, hy, h2, rfl⟩
        · rw [List.mem_singleton.1 hy] at hc
          exact absurd rfl hc
    · rintro (⟨z, hz, rfl⟩ | ⟨y, hy, h2, rfl⟩)
      · exact .inl ⟨z, hz, by rw [hat z.ky hc]⟩
      · exact .inr ⟨y, by simp [hy], h2, rfl⟩
  have hfil : ∀ c : Cg, c ∈ C.filter (fun c => decide (c.ky ≠ x.ky)) ↔ AllC l (w ++ [x]) c ∧ c.ky ≠ x.ky := fun c => by
    rw [List.mem_filter, hm]
    simp only [ne_eq, decide_not, Bool.not_eq_true', decide_eq_false_iff_not]
    constructor
    · rintro ⟨h1, h2⟩; exact ⟨(hold c h2).2 h1, h2⟩
    · rintro ⟨h1, h2⟩; exact ⟨(hold c h2).1 h1, h2⟩
  unfold updC
  cases hg : C.find? (fun c => decide (c.ky = x.ky)) with
  | none =>
    have hno : ∀ c ∈ C, c.ky ≠ x.ky := fun c hc => by simpa using List.find?_eq_none.1 hg c hc
    have hlx : ∀ z ∈ l, z.ky ≠ x.ky := fun z hz e => hno _ ((hm _).2 (.inl ⟨z, hz, rfl⟩)) e
    dsimp only
    rw [List.mem_cons, hfil]
    constructor
    · rintro (rfl | ⟨h1, _⟩)
      · exact .inr ⟨x, by simp, hlx, rfl⟩
      · exact h1
    · intro h
      by_cases e : c.ky = x.ky
      · left
        rcases h with ⟨z, hz, rfl⟩ | ⟨y, hy, h2, rfl⟩
        · exact absurd e (hlx z hz)
        · rcases List.mem_append.1 hy with hy | hy
          · exact absurd e (hwn y hy)
          · rw [List.mem_singleton.1 hy]
      · exact .inr ⟨h, e⟩
  | some c0 =>
    have h0 := List.mem_of_find?_eq_some hg
    have e0 : c0.ky = x.ky := by simpa using List.find?_some hg
    have hA := (hm c0).1 h0
    obtain ⟨z, hz, rfl⟩ : ∃ z ∈ l, c0 = ⟨z.no, z.d, z.c, z.a, wantAt w z.ky⟩ := by
      rcases hA with h | ⟨y, hy, _, rfl⟩
      · exact h
      · exact absurd e0 (hwn y hy)
    have ez : z.ky = x.ky := e0
    dsimp only
    rw [List.mem_cons, hfil]
    constructor
    · rintro (rfl | ⟨h1, _⟩)
      · exact .inl ⟨z, hz, by rw [ez, hatx]⟩
      · exact h1
    · intro h
      by_cases e : c.ky = x.ky
      · left
        rcases h with ⟨z', hz', rfl⟩ | ⟨y, hy, h2, rfl⟩
        · have : z' = z := by
            obtain ⟨i, hi, e1⟩ := List.getElem_of_mem hz
            obtain ⟨k, hk, e2⟩ := List.getElem_of_mem hz'
            have h3 : (l.map Lv.ky)[i]? = (l.map Lv.ky)[k]? := by
              rw [List.getElem?_map, List.getElem?_map, List.getElem?_eq_getElem hi, List.getElem?_eq_getElem hk, e1, e2]
              have e' : z'.ky = x.ky := e
              simp [e', ez]
            have h4 : i = k := (List.getElem?_inj (by simpa using hi) hl).1 h3
            subst h4
            rw [← e2, e1]
          subst this
          rw [ez, hatx]
        · rcases List.mem_append.1 hy with hy | hy
          · exact absurd e (hwn y hy)
          · rw [List.mem_singleton.1 hy] at h2
            exact absurd ez (h2 z hz)
      · exact .inr ⟨h, e⟩
theorem liveC_all {l : List Lv} (hl : (l.map Lv.ky).Nodup) : ((l.map liveC).map Cg.ky).Nodup ∧ ∀ c, c ∈ l.map liveC ↔ AllC l [] c := by
  refine ⟨by rw [List.map_map]; exact hl, fun c => ?_⟩
  rw [List.mem_map]
  constructor
  · rintro ⟨x, hx, rfl⟩; exact .inl ⟨x, hx, rfl⟩
  · rintro (⟨x, hx, rfl⟩ | ⟨y, hy, _⟩)
    · exact ⟨x, hx, rfl⟩
    · cases hy
theorem allC_fold {l : List Lv} (hl : (l.map Lv.ky).Nodup) {w : List Fl} (hw : Rising Fl.ky w) (j : Nat) (hj : j ≤ w.length) : (((w.take j).foldl updC (l.map liveC)).map Cg.ky).Nodup ∧ ∀ c, c ∈ (w.take j).foldl updC (l.map liveC) ↔ AllC l (w.take j) c := by
  induction j with
  | zero => simpa using liveC_all hl
  | succ j ih =>
    obtain ⟨h1, h2⟩ := ih (by omega)
    have e : w.take (j + 1) = w.take j ++ [w[j]] := List.take_succ_eq_append_getElem (by omega)
    have hr : Rising Fl.ky (w.take (j + 1)) := List.Pairwise.sublist (List.take_sublist _ _) hw
    rw [e] at hr ⊢
    rw [List.foldl_append]
    exact ⟨updC_keys h1, foldC hl _ (List.pairwise_append.1 hr).1 _ h1 h2 _ fun y hy => (List.pairwise_append.1 hr).2.2 y hy _ (by simp)⟩
/-- Sorted, and what turns something kept: the plan. -/
theorem plan_of {l : List Lv} {w : List Fl} (hl : (l.map Lv.ky).Nodup) (hw : Rising Fl.ky w) {s : List Cg} (hs : Rising Cg.ky s) (hp : ∀ c, c ∈ s ↔ c ∈ w.foldl updC (l.map liveC)) : IsPlan l w (s.filter fun c => decide (c.o ≠ c.n)) := by
  have h := allC_fold hl hw w.length (Nat.le_refl _)
  rw [List.take_length] at h
  refine ⟨List.Pairwise.sublist List.filter_sublist hs, fun c => ?_⟩
  rw [List.mem_filter, hp, h.2]
  simp [InPlan]

end Go.Proofs.YtmjgcenhgpkhiaaDoor
namespace Go.Proofs.YtmjgcenhgpkhiaaDoor
open Go.RowKit Go.Sort Go.Shelf
set_option linter.unusedVariables false
set_option linter.unusedSimpArgs false
set_option maxRecDepth 100000

def revP (x : EnP) (no : Int) : EnP := ⟨⟨x.s.con, x.s.day, x.s.cur, 0, 0, no⟩, x.ls.map Ln.neg⟩
def flowP (con d c n h v : Int) : EnP := ⟨⟨con, d, c, 0, 0, -1⟩, [⟨h, c, n⟩, ⟨v, c, -n⟩]⟩
def zeroEn : En := ⟨zero6, none, 0, []⟩
theorem zeroEn_ok (w : World) : EnOk w zeroEn := ⟨fun h => absurd h (by simp [zeroEn]), fun l hl => by simp [zeroEn] at hl, by simp [zeroEn], fun _ => ⟨rfl, rfl⟩⟩
/-- An entry that a call hands out, or none. -/
def HandEnd (n : Int) (p : EnP) (w : World) (e : Ending) (w' : World) : Prop :=
  ∃ y : En, e = .returned (.tuple #[entV y.s y.a y.ls.length y.cap, .int .i64 n]) ∧ EnOk w' y ∧ (∀ x, y.a = some x → w.heap.size ≤ x.block) ∧ (n = 0 → y.p = p) ∧ Below w.heap.size w w'
theorem neg_wf {ls : List Ln} (h : AllWf ls) (hm : ∀ l ∈ ls, -9223372036854775807 ≤ l.a ∧ l.a ≤ 9223372036854775807) : AllWf (ls.map Ln.neg) := fun l hl => by
  obtain ⟨k, hk, rfl⟩ := List.mem_map.1 hl
  have h1 := h k hk
  have h2 := hm k hk
  unfold Ln.wf at h1 ⊢
  unfold Ln.neg
  dsimp only
  omega
theorem revErr_check {s : Six} {ls : List Ln} {no : Int} (h : revErr s ls no = 0) : checkE s ls = 0 ∧ s.ref = -1 ∧ 0 ≤ no := by
  unfold revErr at h
  split at h
  · rename_i h1
    split at h
    · rename_i h2
      split at h
      · cases h
      · exact ⟨h1, h2, by omega⟩
    · cases h
  · rename_i h1; exact absurd h h1
theorem rev_hand (x : En) (no : Int) (w : World) (hR : RulesAt w) (hx : EnOk w x) : Calls Tryd.prog 10 #[entV x.s x.a x.ls.length x.cap, .int .i64 no] w (HandEnd (revErr x.s x.ls no) (revP x.p no) w) := by
  refine (reverse_ok x.s no x.a x.cap x.ls w hR hx.ln (by have := hx.few; omega) hx.wf hx.nil).mono ?_
  rintro e w' ⟨hb, ⟨h0, c, cap, rfl, hn, hl, hnew⟩ | ⟨h0, rfl⟩⟩
  · have hlen : (x.ls.map Ln.neg).length = x.ls.length := by simp
    refine ⟨⟨⟨x.s.con, x.s.day, x.s.cur, 0, 0, no⟩, c, cap, x.ls.map Ln.neg⟩, by dsimp only; rw [hlen, h0], ⟨hl, neg_wf hx.wf (fits_min (check_fits (revErr_check h0).1) hx.wf), ?_, ?_⟩, hnew, fun _ => rfl, hb⟩
    · show (x.ls.map Ln.neg).length ≤ 1000
      rw [hlen]; exact hx.few
    · show c = none → (x.ls.map Ln.neg).length = 0 ∧ cap = 0
      rw [hlen]; exact hn
  · exact ⟨zeroEn, rfl, zeroEn_ok _, (fun x hx => by cases hx), (fun h => absurd h h0), hb⟩
theorem flowErr_parts {con d c a h v : Int} (he : flowErr con d c a h v = 0) : tagOk con d c = true ∧ belowB h 16 = true ∧ belowB v 16 = true ∧ h ≠ v ∧ a ≠ 0 ∧ a ≠ -9223372036854775808 := by
  unfold flowErr at he
  split at he
  · rename_i h1
    split at he
    · rename_i h2
      split at he
      · rename_i h3
        split at he
        · cases he
        · rename_i h4
          split at he
          · cases he
          · rename_i h5
            split at he
            · cases he
            · rename_i h6; exact ⟨h1, h2, h3, h4, h5, h6⟩
      · cases he
    · cases he
  · cases he
theorem flow_hand (con d c a h v : Int) (w : World) (ha : -9223372036854775808 ≤ a ∧ a ≤ 9223372036854775807) :
    Calls Tryd.prog 11 #[.agg #[.int .i64 con, .int .i64 d, .int .i64 c], .int .i64 a, .int .i64 h, .int .i64 v] w (HandEnd (flowErr con d c a h v) (flowP con d c a h v) w) := by
  refine (flow_ok con d c a h v w ha).mono ?_
  rintro e w' ⟨hb, ⟨h0, g, rfl, hl, hnew⟩ | ⟨h0, rfl⟩⟩
  · obtain ⟨h1, h2, h3, h4, h5, h6⟩ := flowErr_parts h0
    refine ⟨⟨⟨con, d, c, 0, 0, -1⟩, some ⟨g, 0, none⟩, 2, [⟨h, c, a⟩, ⟨v, c, -a⟩]⟩, by rw [h0]; rfl, ⟨hl, fun l hl => ?_, by simp, fun e => by cases e⟩, (fun x hx => by cases hx; exact hnew), fun _ => rfl, hb⟩
    unfold tagOk belowB at h1
    unfold belowB at h2 h3
    simp only [Bool.and_eq_true, decide_eq_true_eq] at h1 h2 h3
    simp only [List.mem_cons, List.not_mem_nil, or_false] at hl
    rcases hl with rfl | rfl <;> (unfold Ln.wf; dsimp only; omega)
  · exact ⟨zeroEn, rfl, zeroEn_ok _, (fun x hx => by cases hx), (fun h => absurd h h0), hb⟩

/-- What a place to get entries of answers. -/
structure Getter (g : FuncId) (r : Value) (err : Int → Int) (ans : Int → EnP) (w : World) : Prop where
  enters : ∀ args w, (callFunc g args).run Tryd.prog w = .ok (.enter g args) w
  call : ∀ W, Below w.heap.size w W → ∀ no : Int, Calls Tryd.prog g #[r, .int .i64 no] W fun e W' => ∃ y : En, e = .returned (.tuple #[entV y.s y.a y.ls.length y.cap, .int .i64 (err no)]) ∧ EnOk W' y ∧ (err no = 0 → y.p = ans no) ∧ Below W.heap.size W W'

section
variable (con h v : Int) (err : Int → Int) (ans : Int → EnP)
def flE (c : Cg) : Int := if c.n = 0 then 0 else flowErr con c.d c.c c.n h v
def flL (c : Cg) : List EnP := if c.n = 0 then [] else [flowP con c.d c.c c.n h v]
def rvE (c : Cg) : Int := if c.no = -1 then 0 else if err c.no = 0 then revErr (ans c.no).s (ans c.no).ls c.no else err c.no
def rvL (c : Cg) : List EnP := if c.no = -1 then [] else [revP (ans c.no) c.no]
def chE (c : Cg) : Int := if rvE err ans c = 0 then flE con h v c else rvE err ans c
def chL (c : Cg) : List EnP := rvL ans c ++ flL con h v c
def entsE : List Cg → Int
  | [] => 0
  | c :: cs => if chE con h v err ans c = 0 then entsE cs else chE con h v err ans c
def entsL (cs : List Cg) : List EnP := cs.flatMap (chL con h v ans)
theorem entsL_len (cs : List Cg) : (entsL con h v ans cs).length ≤ 2 * cs.length := by
  induction cs with
  | nil => simp [entsL]
  | cons c cs ih =>
    have h1 : (chL con h v ans c).length ≤ 2 := by
      unfold chL rvL flL
      rw [List.length_append]
      split <;> split <;> simp
    unfold entsL at ih ⊢
    rw [List.flatMap_cons, List.length_append, List.length_cons]
    omega
theorem entsL_take {cs : List Cg} {i : Nat} {c : Cg} (hc : cs[i]? = some c) : entsL con h v ans (cs.take (i + 1)) = entsL con h v ans (cs.take i) ++ chL con h v ans c := by
  obtain ⟨hi, he⟩ := List.getElem?_eq_some_iff.1 hc
  unfold entsL
  rw [List.take_succ_eq_append_getElem hi, List.flatMap_append, he]
  simp
theorem entsE_bad {cs : List Cg} {i : Nat} {c : Cg} (hc : cs[i]? = some c) (hk : ∀ j, j < i → ∀ x, cs[j]? = some x → chE con h v err ans x = 0) (hb : chE con h v err ans c ≠ 0) : entsE con h v err ans cs = chE con h v err ans c := by
  induction cs generalizing i with
  | nil => simp at hc
  | cons a cs ih =>
    cases i with
    | zero =>
      simp only [List.getElem?_cons_zero, Option.some.injEq] at hc
      subst hc
      rw [entsE, if_neg hb]
    | succ i =>
      have h0 := hk 0 (by omega) a rfl
      rw [entsE, if_pos h0]
      exact ih (i := i) (by simpa using hc) (fun j hj x hx => hk (j + 1) (by omega) x (by simpa using hx))
theorem entsE_ok {cs : List Cg} (hk : ∀ (j : Nat) (x : Cg), cs[j]? = some x → chE con h v err ans x = 0) : entsE con h v err ans cs = 0 := by
  induction cs with
  | nil => rfl
  | cons a cs ih =>
    rw [entsE, if_pos (hk 0 a rfl)]
    exact ih fun j x hx => hk (j + 1) x (by simpa using hx)
end

set_option maxHeartbeats 2000000 in
theorem get_ok (s : Six) (a : Option Addr) (cap : Nat) (n : Nat) (no : Int) (w : World) :
    Calls Tryd.prog 9 #[entV s a n cap, .int .i64 no] w fun e w' => e = .returned (if no = 3 then .tuple #[entV s a n cap, .int .i64 0] else .tuple #[entV zero6 none 0 0, .int .i64 16]) ∧ Below w.heap.size w w' := by
  unfold entV
  obtain ⟨wa, hwa⟩ : ∃ wa, w.alloc (.cells (entCs s a n cap) 37) = wa := ⟨_, rfl⟩
  have hba : Below w.heap.size w wa := by rw [← hwa]; exact (Below.refl _ _).alloc (Nat.le_refl _) _
  have hza : wa.heap.size = w.heap.size + 1 := by rw [← hwa]; simp
  have box1 : EBox wa w.heap.size s a n cap := by rw [← hwa]; exact EBox.new _ _ _ _ _ _
  obtain ⟨wb, hwb⟩ : ∃ wb, wa.alloc (.cells (entCs zero6 none 0 0) 26) = wb := ⟨_, rfl⟩
  have hbb : Below wa.heap.size wa wb := by rw [← hwb]; exact (Below.refl _ _).alloc (Nat.le_refl _) _
  have hzb : wb.heap.size = wa.heap.size + 1 := by rw [← hwb]; simp
  have HO : Hid (OBox wb wa.heap.size) := by rw [← hwb]; exact OBox.new _ _
  have box1' := box1.after hbb
  have hbw : Below w.heap.size w wb := hba.trans (hbb.mono (by omega))
  have HZA := Lib.hid hza
  have HZB := Lib.hid hzb
  unfold entCs zero6 at hwb
  unfold entCs at hwa
  obtain ⟨p0, p1, p2, p3, p4, p5, p6⟩ := id box1'
  obtain ⟨⟨o0, o1, o2, o3, o4, o5, o6⟩, f0, f1, f2, f3, f4, f5, f6⟩ := HO.out
  clear hza hzb box1 box1'
  by_cases h3 : no = 3
  · subst h3
    go_enter Tryd.func9, Tryd.ntmps9
    go_wp2_with fail
    refine bodyPost_ret (v := .tuple #[entV s a n cap, .int .i64 0]) ?_ rfl ?_
    · simp [results, Tryd.results9, go_sem, o0, o1, o2, o3, o4, o5, o6, entV, zero6]
    · exact ⟨rfl, below_set7 hbw (by have := HZA.out; omega) _ _ _ _ _ _ _⟩
  · go_enter Tryd.func9, Tryd.ntmps9
    go_wp2_with fail
    refine bodyPost_ret (v := .tuple #[entV zero6 none 0 0, .int .i64 16]) ?_ rfl ?_
    · simp [results, Tryd.results9, go_sem, o0, o1, o2, o3, o4, o5, o6, entV, zero6]
    · exact ⟨rfl, below_set7 hbw (by have := HZA.out; omega) _ _ _ _ _ _ _⟩
def oneErr (no : Int) : Int := if no = 3 then 0 else 16
theorem one_getter (x : En) (w : World) (hx : EnOk w x) : Getter 9 (entV x.s x.a x.ls.length x.cap) oneErr (fun _ => x.p) w := by
  refine ⟨enters_of Tryd.func9 (by kernel_rfl) rfl, fun W hW no => (get_ok x.s x.a x.cap x.ls.length no W).mono ?_⟩
  rintro e W' ⟨rfl, hb⟩
  unfold oneErr
  by_cases h : no = 3
  · rw [if_pos h, if_pos h]
    exact ⟨x, rfl, (hx.after hW).after hb, fun _ => rfl, hb⟩
  · rw [if_neg h, if_neg h]
    exact ⟨zeroEn, rfl, zeroEn_ok _, (fun h => by cases h), hb⟩

end Go.Proofs.YtmjgcenhgpkhiaaDoor
