/- The statement LedgerEven: its walk. -/
import Derived.Test.YtpinhomalmknjaaDoorLgS
import Derived.Test.YtpinhomalmknjaaDoorLgI
namespace Go.Proofs.YtpinhomalmknjaaDoor
open Go.RowKit Go.Sort Go.Shelf
set_option linter.unusedVariables false
set_option linter.unusedSimpArgs false
set_option maxRecDepth 100000

theorem SeqAEnd.listed {w w' : World} {E : List En} {e : Ending} (h : SeqAEnd w E e w') (hl : E.length ≤ 200) : ∃ Bc, e = .returned (.func (.func 50) #[] #[.pointer (some ⟨Bc, 0, none⟩)]) ∧ Below w.heap.size w w' ∧
    Calls Tryd.prog 23 #[.func (.func 50) #[] #[.pointer (some ⟨Bc, 0, none⟩)]] w' (ListEnd w' (idxP (E.map En.p))) := by
  obtain ⟨Bc, rfl, hb, ht⟩ := h.tells (by omega)
  exact ⟨Bc, rfl, hb, list_any 50 _ E.length _ _ w' hl (fun args w => by kernel_rfl) (fun w0 h0 => ht w0 4 (by omega) h0)⟩
theorem idxP_snd (L : List EnP) : (idxP L).map Prod.snd = L := by
  unfold idxP
  rw [List.map_map]
  apply List.ext_getElem?
  intro j
  rw [List.getElem?_map, List.getElem?_zipIdx]
  cases L[j]? <;> rfl
theorem zs_p {zs : List (Int × En)} {L : List EnP} (h : zs.map prI = idxP L) : (zs.map Prod.snd).map En.p = L := by
  have := congrArg (List.map Prod.snd) h
  rw [idxP_snd, List.map_map] at this
  rw [List.map_map]
  exact this
/-- The books, and what the law holds of them. -/
structure EvS (W : World) (p b s i : Nat) (aw : Option Addr) (cw : Nat) (Z : List En) (wr : World) : Prop where
  ex : ∃ bm a cap E, LgAt wr p bm a cap E ∧ E.map En.p = Z.map En.p
  wl : WL (Z.map En.p)
  per : ∃ l, Per wr b s 30 l ∧ 0 ≤ l ∧ l ≤ i
  pb : PBox wr b
  sl : SlAt wr 7 En.cs aw cw Z
  ok : ∀ e ∈ Z, EnOk wr e
  len : Z.length ≤ 6 * i
  be : Below W.heap.size W wr
structure Apart3 (W : World) (p b s : Nat) : Prop where
  hp : W.heap.size ≤ p
  hb : W.heap.size ≤ b
  hs : W.heap.size ≤ s
  npb : p ≠ b
  nps : p ≠ s
  nsb : s ≠ b
theorem EvS.after {W : World} {p b s i : Nat} {aw : Option Addr} {cw : Nat} {Z : List En} {A C : World} (h : EvS W p b s i aw cw Z A) (hb : Below A.heap.size A C) : EvS W p b s i aw cw Z C := by
  obtain ⟨⟨bm, a, cap, E, h1, h2⟩, h3, ⟨l, h4, h5, h6⟩, h7, h8, h9, h10, h11⟩ := h
  exact ⟨⟨bm, a, cap, E, h1.after hb, h2⟩, h3, ⟨l, h4.after hb, h5, h6⟩, h7.after hb, h8.after hb, fun e he => (h9 e he).after hb, h10, h11.trans (hb.mono h11.size)⟩
/-- Behind a lock. -/
theorem EvS.lock {W : World} {p b s i : Nat} {aw : Option Addr} {cw : Nat} {Z : List En} {A C : World} {l : Int} {e : Ending} (h : EvS W p b s i aw cw Z A) (ha : Apart3 W p b s) (h0 : 0 ≤ l) (hl : l ≤ i) (hk : LockEnd b s l A e C) : ∃ n, e = .returned (.int .i64 n) ∧ EvS W p b s (i + 1) aw cw Z C := by
  obtain ⟨⟨bm, a, cap, E, h1, h2⟩, h3, _, h7, h8, h9, h10, h11⟩ := h
  obtain ⟨n, l', rfl, k1, k2, k3, t⟩ := hk
  have hb : ∀ q ∈ [b], Bx A q := fun q hq => by rw [List.mem_singleton.1 hq]; exact .inr h7
  refine ⟨n, rfl, ⟨bm, a, cap, E, h1.turn2 t hb (by simpa using ha.npb), h2⟩, h3, ⟨l', k1, by omega, by push_cast; omega⟩, k2, h8.turn2 t hb, fun e he => (h9 e he).turn2 t hb, by omega, h11.trans (t.below h11.size fun q hq => by rw [List.mem_singleton.1 hq]; exact ha.hb)⟩
theorem EvS.up {W : World} {p b s i : Nat} {aw : Option Addr} {cw : Nat} {Z : List En} {A : World} (h : EvS W p b s i aw cw Z A) : EvS W p b s (i + 1) aw cw Z A := by
  obtain ⟨h1, h3, ⟨l, h4, h5, h6⟩, h7, h8, h9, h10, h11⟩ := h
  exact ⟨h1, h3, ⟨l, h4, h5, by push_cast; omega⟩, h7, h8, h9, by omega, h11⟩
/-- Behind a call of Post. -/
structure MidS (W : World) (p b s n : Nat) (aw : Option Addr) (cw : Nat) (Z : List En) (L : List EnP) (er op : Int) (wr : World) : Prop where
  ex : ∃ bm a cap E, LgAt wr p bm a cap E ∧ E.map En.p = L
  wl : WL L
  per : ∃ l, Per wr b s 30 l ∧ 0 ≤ l ∧ l ≤ n ∧ (er = 0 → 0 ≤ op ∧ op ≤ lastP 30 ∧ l ≤ op)
  pb : PBox wr b
  sl : SlAt wr 7 En.cs aw cw Z
  ok : ∀ e ∈ Z, EnOk wr e
  be : Below W.heap.size W wr
theorem MidS.after {W : World} {p b s n : Nat} {aw : Option Addr} {cw : Nat} {Z : List En} {L : List EnP} {er op : Int} {A C : World} (h : MidS W p b s n aw cw Z L er op A) (hb : Below A.heap.size A C) : MidS W p b s n aw cw Z L er op C := by
  obtain ⟨⟨bm, a, cap, E, h1, h2⟩, h3, ⟨l, h4, h5, h6⟩, h7, h8, h9, h11⟩ := h
  exact ⟨⟨bm, a, cap, E, h1.after hb, h2⟩, h3, ⟨l, h4.after hb, h5, h6⟩, h7.after hb, h8.after hb, fun e he => (h9 e he).after hb, h11.trans (hb.mono h11.size)⟩
def PoE (W : World) (p b s n : Nat) (aw : Option Addr) (cw : Nat) (Z : List En) (op os : Int) (X : List En) (e : Ending) (w' : World) : Prop :=
  ∃ (L : List EnP) (er no : Int), e = .returned (.tuple #[.int .i64 no, .int .i64 er]) ∧ ((er = 0 ∧ no = (Z.length : Int) ∧ L = Z.map En.p ++ (X.map En.p).map (stamp op os)) ∨ (er ≠ 0 ∧ L = Z.map En.p)) ∧ MidS W p b s n aw cw Z L er op w'
theorem EvS.post {W : World} {p b s n : Nat} {aw : Option Addr} {cw : Nat} {Z : List En} {A : World} (h : EvS W p b s n aw cw Z A) (ha : Apart3 W p b s) (hR : RulesAt W) (hn : n ≤ 100) (op os : Int) (ea : Option Addr) (ecap : Nat) (X : List En) (hx : EnsAt A ea X) (hxl : X.length ≤ 6) (hxw : ∀ x ∈ X, (Lit.int .i64 x.s.ref).wf = true) :
    Calls Tryd.prog 20 #[.pointer (some ⟨p, 0, none⟩), .pointer (some ⟨b, 0, none⟩), .int .i64 op, .int .i64 os, .slice ea X.length ecap] A (PoE W p b s n aw cw Z op os X) := by
  obtain ⟨⟨bm, a, cap, E, h1, h2⟩, h3, ⟨l, h4, h5, h6⟩, h7, h8, h9, h10, h11⟩ := h
  have hEl : E.length = Z.length := by have := congrArg List.length h2; simpa using this
  have hw : WL (E.map En.p) := by rw [h2]; exact h3
  refine (lpost_ok p bm a cap E b s 30 l op os ea ecap X A (hR.after h11) h1 hw (by omega) h4 (by omega) (by omega) hx (by omega) hxw).mono ?_
  rintro e C ⟨bm', a', cap', E', rfl, k1, k2, t⟩
  have hb : ∀ q ∈ [p], LBox A q := fun q hq => by rw [List.mem_singleton.1 hq]; exact h1.box
  have hb2 : ∀ q ∈ [p], Bx A q := fun q hq => .inl (hb q hq)
  obtain ⟨er, her⟩ : ∃ er, postE (decide (0 ≤ op ∧ op ≤ lastP 30)) (decide (op < l)) op os (E.map En.p) (X.map En.p) = er := ⟨_, rfl⟩
  have hWL : WL (E'.map En.p) := by rw [k2]; exact postL_wl hw (fun ht => (of_decide_eq_true ht).1)
  refine ⟨E'.map En.p, er, _, by rw [her], ?_, ⟨bm', a', cap', E', k1, rfl⟩, hWL, ⟨l, h4.turn t (by simpa using ha.npb.symm) (by simpa using ha.nps.symm), h5, h6, fun h0 => ?_⟩, h7.turn t (by simpa using ha.npb.symm), h8.turn2 t hb2, fun e he => (h9 e he).turn2 t hb2, h11.trans (t.below h11.size fun q hq => by rw [List.mem_singleton.1 hq]; exact ha.hp)⟩
  · rw [k2]
    unfold postL
    rw [her, h2]
    by_cases h0 : er = 0
    · exact .inl ⟨h0, by rw [if_pos h0, hEl], if_pos h0⟩
    · exact .inr ⟨h0, if_neg h0⟩
  · rw [← her] at h0
    unfold postE at h0
    split at h0
    · cases h0
    · rename_i c1
      split at h0
      · cases h0
      · rename_i c2
        simp at c1 c2
        omega
/-- Behind the listing. -/
structure NowS (W : World) (p b s n : Nat) (aw : Option Addr) (cw : Nat) (Z : List En) (L : List EnP) (er op : Int) (ae : Option Addr) (ce : Nat) (Z2 : List En) (wr : World) : Prop where
  mid : MidS W p b s n aw cw Z L er op wr
  sl : SlAt wr 7 En.cs ae ce Z2
  ok : ∀ e ∈ Z2, EnOk wr e
  eq : Z2.map En.p = L
theorem NowS.after {W : World} {p b s n : Nat} {aw : Option Addr} {cw : Nat} {Z : List En} {L : List EnP} {er op : Int} {ae : Option Addr} {ce : Nat} {Z2 : List En} {A C : World} (h : NowS W p b s n aw cw Z L er op ae ce Z2 A) (hb : Below A.heap.size A C) : NowS W p b s n aw cw Z L er op ae ce Z2 C :=
  ⟨h.mid.after hb, h.sl.after hb, fun e he => (h.ok e he).after hb, h.eq⟩
theorem NowS.next {W : World} {p b s n : Nat} {aw : Option Addr} {cw : Nat} {Z : List En} {L : List EnP} {er op : Int} {ae : Option Addr} {ce : Nat} {Z2 : List En} {A : World} (h : NowS W p b s n aw cw Z L er op ae ce Z2 A) (hl : Z2.length ≤ 6 * n) : EvS W p b s n ae ce Z2 A := by
  obtain ⟨⟨h1, h2, ⟨l, h3, h4, h5, _⟩, h6, _, _, h7⟩, k1, k2, rfl⟩ := h
  exact ⟨h1, h2, ⟨l, h3, h4, h5⟩, h6, k1, k2, hl, h7⟩
theorem SlAt.at7 {w : World} {a : Option Addr} {cap : Nat} {Z : List En} (h : SlAt w 7 En.cs a cap Z) (hl : 0 < Z.length) : ∃ b o, a = some ⟨b, o, none⟩ ∧ b < w.heap.size ∧ ∀ i, i < Z.length → Cells7At w b (o + i * 7) (En.at Z i) := by
  obtain ⟨b, o, e, hc⟩ := h.recs hl
  exact ⟨b, o, e, World.block_lt_of_cell? w _ (hc 0 hl 0 _ rfl), fun i hi => ⟨hc i hi 0 _ rfl, hc i hi 1 _ rfl, hc i hi 2 _ rfl, hc i hi 3 _ rfl, hc i hi 4 _ rfl, hc i hi 5 _ rfl, hc i hi 6 _ rfl⟩⟩

end Go.Proofs.YtpinhomalmknjaaDoor
