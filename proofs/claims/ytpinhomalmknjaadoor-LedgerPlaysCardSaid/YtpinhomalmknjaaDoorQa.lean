/- Locks ahead of calls: what they keep. -/
import Derived.Test.YtpinhomalmknjaaDoorLgO
import Derived.Test.YtpinhomalmknjaaDoorLgR
import Derived.Test.YtpinhomalmknjaaDoorLgI
import Derived.BigGuardPart
import Derived.BigQuiet
namespace Go.Proofs.YtpinhomalmknjaaDoor
open Go.RowKit
set_option linter.unusedVariables false
set_option linter.unusedSimpArgs false
set_option maxRecDepth 100000

/-- A block that holds a pointer and a number: what periods lie in. -/
def PBox (w : World) (q : Nat) : Prop := ∃ (a : Option Addr) (n : Int) (T : TypeId), Blk w q #[.pointer a, .int .i64 n] T
def Bx (w : World) (q : Nat) : Prop := LBox w q ∨ PBox w q
theorem Bx.no_two {w : World} {q i : Nat} {n m : Int} (h : Bx w q) : ¬ (w.cell? ⟨q, i, none⟩ = some (.int .i64 n) ∧ w.cell? ⟨q, i + 1, none⟩ = some (.int .i64 m)) := fun ⟨e, e'⟩ => by
  rcases h with h | ⟨a, k, T, hb⟩
  · exact h.no_int e
  · have hb' : w.heap[q]? = some (.cells #[.pointer a, .int .i64 k] T (0, 0)) := hb
    simp only [World.cell?, hb'] at e e'
    rcases i with _ | _ | i
    · simp at e
    · simp at e'
    · simp at e
theorem Bx.no_map {w : World} {q B : Nat} {ok : Value → Prop} {m : List (Value × Value)} (h : Bx w q) (hm : MapAt ok w B m) : B ≠ q := fun e => by
  subst e
  obtain ⟨es, cl, he, _⟩ := hm
  rcases h with ⟨a, n, c, k, T, hq⟩ | ⟨a, k, T, hq⟩
  · rw [hq] at he; cases he
  · have hq' : w.heap[B]? = some (.cells #[.pointer a, .int .i64 k] T (0, 0)) := hq
    rw [hq'] at he; cases he
theorem LnAt.turn2 {w w' : World} {bs : List Nat} {a : Option Addr} {ls : List Ln} (h : LnAt w a ls) (t : Turn bs w w') (hb : ∀ q ∈ bs, Bx w q) : LnAt w' a ls := fun hl => by
  obtain ⟨b, o, e, hc⟩ := h hl
  have h0 := (hc 0 hl).1
  have hlt : b < w.heap.size := World.block_lt_of_cell? w _ h0
  have hn : b ∉ bs := fun hm => (hb b hm).no_two ⟨h0, (hc 0 hl).2.1⟩
  have hk := t.block b hlt hn
  exact ⟨b, o, e, fun i hi => ⟨(World.cell?_of_block hk).trans (hc i hi).1, (World.cell?_of_block hk).trans (hc i hi).2.1, (World.cell?_of_block hk).trans (hc i hi).2.2⟩⟩
theorem EnOk.turn2 {w w' : World} {bs : List Nat} {e : En} (h : EnOk w e) (t : Turn bs w w') (hb : ∀ q ∈ bs, Bx w q) : EnOk w' e := ⟨h.ln.turn2 t hb, h.wf, h.few, h.nil⟩
theorem SlAt.turn2 {w w' : World} {bs : List Nat} {a : Option Addr} {cap : Nat} {E : List En} (h : SlAt w 7 En.cs a cap E) (t : Turn bs w w') (hb : ∀ q ∈ bs, Bx w q) : SlAt w' 7 En.cs a cap E := by
  refine ⟨fun hl => ?_, h.le, h.max, h.sh.imp id fun ⟨b, o, e, hlt⟩ => ⟨b, o, e, by have := t.size; omega⟩⟩
  obtain ⟨b, o, e, hc⟩ := h.recs hl
  have h0 : w.cell? ⟨b, o + 0 * 7 + 0, none⟩ = some (.int .i64 (E.getD 0 default).s.con) := hc 0 hl 0 _ rfl
  have h1 : w.cell? ⟨b, o + 0 * 7 + 0 + 1, none⟩ = some (.int .i64 (E.getD 0 default).s.day) := hc 0 hl 1 _ rfl
  have hlt : b < w.heap.size := World.block_lt_of_cell? w _ h0
  have hn : b ∉ bs := fun hm => (hb b hm).no_two ⟨h0, h1⟩
  exact ⟨b, o, e, fun i hi j v hv => (World.cell?_of_block (a := ⟨b, o + i * 7 + j, none⟩) (t.block b hlt hn)).trans (hc i hi j v hv)⟩
theorem LgAt.turn2 {w w' : World} {bs : List Nat} {p bm : Nat} {a : Option Addr} {cap : Nat} {E : List En} (h : LgAt w p bm a cap E) (t : Turn bs w w') (hb : ∀ q ∈ bs, Bx w q) (hp : p ∉ bs) : LgAt w' p bm a cap E :=
  ⟨t.blk h.blk hp, h.sl.turn2 t hb, fun e he => (h.ok e he).turn2 t hb, h.map.block (t.block bm h.map.lt fun hm => (hb bm hm).no_map h.map rfl)⟩
theorem PBox.turn {w w' : World} {bs : List Nat} {q : Nat} (h : PBox w q) (t : Turn bs w w') (hn : q ∉ bs) : PBox w' q := by
  obtain ⟨a, n, T, hb⟩ := h
  exact ⟨a, n, T, t.blk hb hn⟩
theorem PBox.after {w w' : World} {q : Nat} (h : PBox w q) (hb : Below w.heap.size w w') : PBox w' q := h.turn (bs := []) (Turn.of_below hb) (by simp)
theorem PBox.set {w : World} {b : Nat} (h : PBox w b) (l : Int) : PBox (w.setCell ⟨b, 1, none⟩ (.int .i64 l)) b := by
  obtain ⟨a, n, T, hb⟩ := h
  exact ⟨a, l, T, hb.set 1 _⟩
def NewPB (size : Int) (w : World) (e : Ending) (w' : World) : Prop :=
  ∃ b s : Nat, e = .returned (.tuple #[.pointer (some ⟨b, 0, none⟩), .int .i64 0]) ∧ Per w' b s size 0 ∧ PBox w' b ∧ Below w.heap.size w w' ∧ w.heap.size ≤ b ∧ w.heap.size ≤ s ∧ s ≠ b
theorem pnew_box (size : Int) (w : World) (h1 : 1 ≤ size) (h2 : size ≤ 400) :
    Calls Tryd.prog 13 #[.int .i64 size] w (NewPB size w) := by
  go_enter Tryd.func13, Tryd.ntmps13
  go_wp2
  go_ret2
  refine ⟨w.heap.size + 1, w.heap.size, rfl, ⟨?_, ?_, ?_, ?_, ?_⟩, ⟨some ⟨w.heap.size, 0, none⟩, 0, 83, ?_⟩, ((Below.refl _ _).alloc (Nat.le_refl _) _).alloc (by simp) _, by omega, by omega, by omega⟩
  rotate_left 5
  · have := Blk.new (w.alloc (.cells #[.int .i64 size] 81)) #[.pointer (some ⟨w.heap.size, 0, none⟩), .int .i64 0] 83
    rw [World.size_alloc] at this
    first | exact this | (simpa using this)
  all_goals go_simp
/-- The earliest period locked, or not. -/
def LockEnd (b s : Nat) (l : Int) (w : World) (e : Ending) (w' : World) : Prop :=
  ∃ n l', e = .returned (.int .i64 n) ∧ Per w' b s 30 l' ∧ PBox w' b ∧ (l' = l ∨ l' = l + 1) ∧ Turn [b] w w'
theorem plock_box (b s : Nat) (l clock : Int) (w : World) (hP : Per w b s 30 l) (hB : PBox w b) (h3 : 0 ≤ l) (h4 : l ≤ 100) :
    Calls Tryd.prog 31 #[.pointer (some ⟨b, 0, none⟩), .int .i64 l, .int .i64 clock] w (LockEnd b s l w) := by
  have p4 : l ≤ lastP 30 := Int.le_trans h4 (by decide)
  have HB := Lib.hid hB
  clear hB
  by_cases c4 : clock ≤ toP 30 l
  · go_enter Tryd.func31, Tryd.ntmps31
    go_wp2_with (go_at_call 47; refine (pspan_ok b s 30 _ _ _ hP (by omega) (by omega) h3 p4).mono ?_; rintro e w' ⟨rfl, hb'⟩; have hP' := hP.after hb'; have hP'' := Lib.hid hP'; obtain ⟨q0, q1, qs, qf, qn⟩ := hP')
    go_ret
    exact ⟨_, l, rfl, hP''.out, HB.out.after hb', .inl rfl, Turn.of_below hb'⟩
  · go_enter Tryd.func31, Tryd.ntmps31
    go_wp2_with (go_at_call 47; refine (pspan_ok b s 30 _ _ _ hP (by omega) (by omega) h3 p4).mono ?_; rintro e w' ⟨rfl, hb'⟩; have hP' := hP.after hb'; have hP'' := Lib.hid hP'; obtain ⟨q0, q1, qs, qf, qn⟩ := hP')
    go_ret
    exact ⟨_, l + 1, rfl, hP''.out.set _, (HB.out.after hb').set _, .inr rfl, Turn.of_grown (grown_trans (below_row hb' _) (grown_setCell _ b 1 _)) (by simp)⟩

end Go.Proofs.YtpinhomalmknjaaDoor
/- The statement LedgerEven: its walk. -/
namespace Go.Proofs.YtpinhomalmknjaaDoor
open Go.RowKit Go.Sort Go.Shelf
set_option linter.unusedVariables false
set_option linter.unusedSimpArgs false
set_option maxRecDepth 100000

theorem SeqAEnd.listed {w w' : World} {E : List En} {e : Ending} (h : SeqAEnd w E e w') (hl : E.length ≤ 200) : ∃ Bc, e = .returned (.func (.func 50) #[] #[.pointer (some ⟨Bc, 0, none⟩)]) ∧ Below w.heap.size w w' ∧
    Calls Tryd.prog 23 #[.func (.func 50) #[] #[.pointer (some ⟨Bc, 0, none⟩)]] w' (ListEnd w' (idxP (E.map En.p))) := by
  obtain ⟨Bc, rfl, hb, ht⟩ := h.tells (by omega)
  exact ⟨Bc, rfl, hb, list_any 50 _ E.length _ _ w' hl (fun args w => by kernel_rfl) (fun w0 h0 => ht w0 4 (by omega) h0)⟩
theorem idxP_snd (L : List EnP) : (idxP L).map Prod.snd = L := by
  unfold idxP
  rw [List.map_map]
  apply List.ext_getElem?
  intro j
  rw [List.getElem?_map, List.getElem?_zipIdx]
  cases L[j]? <;> rfl
theorem zs_p {zs : List (Int × En)} {L : List EnP} (h : zs.map prI = idxP L) : (zs.map Prod.snd).map En.p = L := by
  have := congrArg (List.map Prod.snd) h
  rw [idxP_snd, List.map_map] at this
  rw [List.map_map]
  exact this
/-- The books, and what the law holds of them. -/
structure EvS (W : World) (p b s i : Nat) (aw : Option Addr) (cw : Nat) (Z : List En) (wr : World) : Prop where
  ex : ∃ bm a cap E, LgAt wr p bm a cap E ∧ E.map En.p = Z.map En.p
  wl : WL (Z.map En.p)
  per : ∃ l, Per wr b s 30 l ∧ 0 ≤ l ∧ l ≤ i
  pb : PBox wr b
  sl : SlAt wr 7 En.cs aw cw Z
  ok : ∀ e ∈ Z, EnOk wr e
  len : Z.length ≤ 6 * i
  be : Below W.heap.size W wr
structure Apart3 (W : World) (p b s : Nat) : Prop where
  hp : W.heap.size ≤ p
  hb : W.heap.size ≤ b
  hs : W.heap.size ≤ s
  npb : p ≠ b
  nps : p ≠ s
  nsb : s ≠ b
theorem EvS.after {W : World} {p b s i : Nat} {aw : Option Addr} {cw : Nat} {Z : List En} {A C : World} (h : EvS W p b s i aw cw Z A) (hb : Below A.heap.size A C) : EvS W p b s i aw cw Z C := by
  obtain ⟨⟨bm, a, cap, E, h1, h2⟩, h3, ⟨l, h4, h5, h6⟩, h7, h8, h9, h10, h11⟩ := h
  exact ⟨⟨bm, a, cap, E, h1.after hb, h2⟩, h3, ⟨l, h4.after hb, h5, h6⟩, h7.after hb, h8.after hb, fun e he => (h9 e he).after hb, h10, h11.trans (hb.mono h11.size)⟩
/-- Behind a lock. -/
theorem EvS.lock {W : World} {p b s i : Nat} {aw : Option Addr} {cw : Nat} {Z : List En} {A C : World} {l : Int} {e : Ending} (h : EvS W p b s i aw cw Z A) (ha : Apart3 W p b s) (h0 : 0 ≤ l) (hl : l ≤ i) (hk : LockEnd b s l A e C) : ∃ n, e = .returned (.int .i64 n) ∧ EvS W p b s (i + 1) aw cw Z C := by
  obtain ⟨⟨bm, a, cap, E, h1, h2⟩, h3, _, h7, h8, h9, h10, h11⟩ := h
  obtain ⟨n, l', rfl, k1, k2, k3, t⟩ := hk
  have hb : ∀ q ∈ [b], Bx A q := fun q hq => by rw [List.mem_singleton.1 hq]; exact .inr h7
  refine ⟨n, rfl, ⟨bm, a, cap, E, h1.turn2 t hb (by simpa using ha.npb), h2⟩, h3, ⟨l', k1, by omega, by push_cast; omega⟩, k2, h8.turn2 t hb, fun e he => (h9 e he).turn2 t hb, by omega, h11.trans (t.below h11.size fun q hq => by rw [List.mem_singleton.1 hq]; exact ha.hb)⟩
theorem EvS.up {W : World} {p b s i : Nat} {aw : Option Addr} {cw : Nat} {Z : List En} {A : World} (h : EvS W p b s i aw cw Z A) : EvS W p b s (i + 1) aw cw Z A := by
  obtain ⟨h1, h3, ⟨l, h4, h5, h6⟩, h7, h8, h9, h10, h11⟩ := h
  exact ⟨h1, h3, ⟨l, h4, h5, by push_cast; omega⟩, h7, h8, h9, by omega, h11⟩
/-- Behind a call of Post. -/
structure MidS (W : World) (p b s n : Nat) (aw : Option Addr) (cw : Nat) (Z : List En) (L : List EnP) (er op : Int) (wr : World) : Prop where
  ex : ∃ bm a cap E, LgAt wr p bm a cap E ∧ E.map En.p = L
  wl : WL L
  per : ∃ l, Per wr b s 30 l ∧ 0 ≤ l ∧ l ≤ n ∧ (er = 0 → 0 ≤ op ∧ op ≤ lastP 30 ∧ l ≤ op)
  pb : PBox wr b
  sl : SlAt wr 7 En.cs aw cw Z
  ok : ∀ e ∈ Z, EnOk wr e
  be : Below W.heap.size W wr
theorem MidS.after {W : World} {p b s n : Nat} {aw : Option Addr} {cw : Nat} {Z : List En} {L : List EnP} {er op : Int} {A C : World} (h : MidS W p b s n aw cw Z L er op A) (hb : Below A.heap.size A C) : MidS W p b s n aw cw Z L er op C := by
  obtain ⟨⟨bm, a, cap, E, h1, h2⟩, h3, ⟨l, h4, h5, h6⟩, h7, h8, h9, h11⟩ := h
  exact ⟨⟨bm, a, cap, E, h1.after hb, h2⟩, h3, ⟨l, h4.after hb, h5, h6⟩, h7.after hb, h8.after hb, fun e he => (h9 e he).after hb, h11.trans (hb.mono h11.size)⟩
def PoE (W : World) (p b s n : Nat) (aw : Option Addr) (cw : Nat) (Z : List En) (op os : Int) (X : List En) (e : Ending) (w' : World) : Prop :=
  ∃ (L : List EnP) (er no : Int), e = .returned (.tuple #[.int .i64 no, .int .i64 er]) ∧ ((er = 0 ∧ no = (Z.length : Int) ∧ L = Z.map En.p ++ (X.map En.p).map (stamp op os)) ∨ (er ≠ 0 ∧ L = Z.map En.p)) ∧ MidS W p b s n aw cw Z L er op w'
theorem EvS.post {W : World} {p b s n : Nat} {aw : Option Addr} {cw : Nat} {Z : List En} {A : World} (h : EvS W p b s n aw cw Z A) (ha : Apart3 W p b s) (hR : RulesAt W) (hn : n ≤ 100) (op os : Int) (ea : Option Addr) (ecap : Nat) (X : List En) (hx : EnsAt A ea X) (hxl : X.length ≤ 6) (hxw : ∀ x ∈ X, (Lit.int .i64 x.s.ref).wf = true) :
    Calls Tryd.prog 20 #[.pointer (some ⟨p, 0, none⟩), .pointer (some ⟨b, 0, none⟩), .int .i64 op, .int .i64 os, .slice ea X.length ecap] A (PoE W p b s n aw cw Z op os X) := by
  obtain ⟨⟨bm, a, cap, E, h1, h2⟩, h3, ⟨l, h4, h5, h6⟩, h7, h8, h9, h10, h11⟩ := h
  have hEl : E.length = Z.length := by have := congrArg List.length h2; simpa using this
  have hw : WL (E.map En.p) := by rw [h2]; exact h3
  refine (lpost_ok p bm a cap E b s 30 l op os ea ecap X A (hR.after h11) h1 hw (by omega) h4 (by omega) (by omega) hx (by omega) hxw).mono ?_
  rintro e C ⟨bm', a', cap', E', rfl, k1, k2, t⟩
  have hb : ∀ q ∈ [p], LBox A q := fun q hq => by rw [List.mem_singleton.1 hq]; exact h1.box
  have hb2 : ∀ q ∈ [p], Bx A q := fun q hq => .inl (hb q hq)
  obtain ⟨er, her⟩ : ∃ er, postE (decide (0 ≤ op ∧ op ≤ lastP 30)) (decide (op < l)) op os (E.map En.p) (X.map En.p) = er := ⟨_, rfl⟩
  have hWL : WL (E'.map En.p) := by rw [k2]; exact postL_wl hw (fun ht => (of_decide_eq_true ht).1)
  refine ⟨E'.map En.p, er, _, by rw [her], ?_, ⟨bm', a', cap', E', k1, rfl⟩, hWL, ⟨l, h4.turn t (by simpa using ha.npb.symm) (by simpa using ha.nps.symm), h5, h6, fun h0 => ?_⟩, h7.turn t (by simpa using ha.npb.symm), h8.turn2 t hb2, fun e he => (h9 e he).turn2 t hb2, h11.trans (t.below h11.size fun q hq => by rw [List.mem_singleton.1 hq]; exact ha.hp)⟩
  · rw [k2]
    unfold postL
    rw [her, h2]
    by_cases h0 : er = 0
    · exact .inl ⟨h0, by rw [if_pos h0, hEl], if_pos h0⟩
    · exact .inr ⟨h0, if_neg h0⟩
  · rw [← her] at h0
    unfold postE at h0
    split at h0
    · cases h0
    · rename_i c1
      split at h0
      · cases h0
      · rename_i c2
        simp at c1 c2
        omega
/-- Behind the listing. -/
structure NowS (W : World) (p b s n : Nat) (aw : Option Addr) (cw : Nat) (Z : List En) (L : List EnP) (er op : Int) (ae : Option Addr) (ce : Nat) (Z2 : List En) (wr : World) : Prop where
  mid : MidS W p b s n aw cw Z L er op wr
  sl : SlAt wr 7 En.cs ae ce Z2
  ok : ∀ e ∈ Z2, EnOk wr e
  eq : Z2.map En.p = L
theorem NowS.after {W : World} {p b s n : Nat} {aw : Option Addr} {cw : Nat} {Z : List En} {L : List EnP} {er op : Int} {ae : Option Addr} {ce : Nat} {Z2 : List En} {A C : World} (h : NowS W p b s n aw cw Z L er op ae ce Z2 A) (hb : Below A.heap.size A C) : NowS W p b s n aw cw Z L er op ae ce Z2 C :=
  ⟨h.mid.after hb, h.sl.after hb, fun e he => (h.ok e he).after hb, h.eq⟩
theorem NowS.next {W : World} {p b s n : Nat} {aw : Option Addr} {cw : Nat} {Z : List En} {L : List EnP} {er op : Int} {ae : Option Addr} {ce : Nat} {Z2 : List En} {A : World} (h : NowS W p b s n aw cw Z L er op ae ce Z2 A) (hl : Z2.length ≤ 6 * n) : EvS W p b s n ae ce Z2 A := by
  obtain ⟨⟨h1, h2, ⟨l, h3, h4, h5, _⟩, h6, _, _, h7⟩, k1, k2, rfl⟩ := h
  exact ⟨h1, h2, ⟨l, h3, h4, h5⟩, h6, k1, k2, hl, h7⟩
theorem SlAt.at7 {w : World} {a : Option Addr} {cap : Nat} {Z : List En} (h : SlAt w 7 En.cs a cap Z) (hl : 0 < Z.length) : ∃ b o, a = some ⟨b, o, none⟩ ∧ b < w.heap.size ∧ ∀ i, i < Z.length → Cells7At w b (o + i * 7) (En.at Z i) := by
  obtain ⟨b, o, e, hc⟩ := h.recs hl
  exact ⟨b, o, e, World.block_lt_of_cell? w _ (hc 0 hl 0 _ rfl), fun i hi => ⟨hc i hi 0 _ rfl, hc i hi 1 _ rfl, hc i hi 2 _ rfl, hc i hi 3 _ rfl, hc i hi 4 _ rfl, hc i hi 5 _ rfl, hc i hi 6 _ rfl⟩⟩

end Go.Proofs.YtpinhomalmknjaaDoor
/- The document's ledger: where it lies; By. -/
namespace Go.Proofs.YtpinhomalmknjaaDoor
open Go.RowKit Go.Sort Go.Shelf
set_option linter.unusedVariables false
set_option linter.unusedSimpArgs false
set_option maxRecDepth 100000

/-- The document's ledger in memory. -/
structure RqAt (w : World) (q : Nat) (a : Option Addr) (cap : Nat) (E : List En) : Prop where
  blk : Blk w q #[.slice a E.length cap] 40
  sl : SlAt w 7 En.cs a cap E
  ok : ∀ e ∈ E, EnOk w e
theorem RqAt.after {w w' : World} {q : Nat} {a : Option Addr} {cap : Nat} {E : List En} (h : RqAt w q a cap E) (hb : Below w.heap.size w w') : RqAt w' q a cap E :=
  ⟨h.blk.after hb, h.sl.after hb, fun e he => (h.ok e he).after hb⟩
def byV (L : List EnP) (no : Int) : Int := match revI L no with
  | some i => (i : Int)
  | none => -1
theorem byV_hit {L : List EnP} {no : Int} {i : Nat} {e : EnP} (he : L[i]? = some e) (h : e.s.ref = no ∧ 0 ≤ no) (hb : ∀ j f, j < i → L[j]? = some f → ¬ (f.s.ref = no ∧ 0 ≤ no)) : byV L no = i := by
  have : revI L no = some i := by
    unfold revI
    obtain ⟨hi, e1⟩ := List.getElem?_eq_some_iff.1 he
    refine List.findIdx?_eq_some_iff_getElem.2 ⟨hi, by rw [e1]; simpa using h, fun j hj => ?_⟩
    have := hb j _ hj (List.getElem?_eq_getElem (by omega))
    simpa using this
  unfold byV
  rw [this]
theorem byV_none {L : List EnP} {no : Int} (hb : ∀ (j : Nat) (f : EnP), L[j]? = some f → ¬ (f.s.ref = no ∧ 0 ≤ no)) : byV L no = -1 := by
  have : revI L no = none := by
    unfold revI
    refine List.findIdx?_eq_none_iff.2 fun e he => ?_
    obtain ⟨j, hj, rfl⟩ := List.getElem_of_mem he
    have := hb j L[j] (List.getElem?_eq_getElem hj)
    simpa using this
  unfold byV
  rw [this]
theorem at_get {E : List En} {i : Nat} (h : i < E.length) : (E.map En.p)[i]? = some (En.at E i).p := by
  rw [List.getElem?_map, List.getElem?_eq_getElem h]
  unfold En.at
  rw [List.getD_eq_getElem?_getD, List.getElem?_eq_getElem h]
  rfl
set_option maxHeartbeats 4000000 in
theorem rby_ok (q : Nat) (a : Option Addr) (cap : Nat) (E : List En) (no : Int) (w : World) (h : RqAt w q a cap E) (hl : E.length ≤ 1000000) :
    Calls Tryd.prog 58 #[.pointer (some ⟨q, 0, none⟩), .int .i64 no] w fun e w' => e = .returned (.int .i64 (byV (E.map En.p) no)) ∧ Below w.heap.size w w' := by
  have H := Lib.hid h
  clear h
  go_enter Tryd.func58, Tryd.ntmps58
  go_wp2_with fail
  go_loopw [5] (fun v wi => ∃ i : Nat, i ≤ E.length ∧ v = .int .i64 i ∧ (∀ j f, j < i → (E.map En.p)[j]? = some f → ¬ (f.s.ref = no ∧ 0 ≤ no)) ∧ Below w.heap.size w wi) (fun v _ => E.length - (intOf v).toNat)
  case atStart => exact ⟨0, by omega, rfl, fun j f hj => by omega, Below.refl _ _⟩
  case round =>
    obtain ⟨i, hi, rfl, hno, hbl⟩ := hrel
    have HN := Lib.hid hno
    have HB := Lib.hid hbl
    have c0 : wr.cell? ⟨q, 0, none⟩ = some (.slice a E.length cap) := (H.out.after hbl).blk.cell 0 rfl
    by_cases hlt : i < E.length
    · obtain ⟨b, o, rfl, hb, hc⟩ := (H.out.after hbl).sl.at7 (by omega)
      have c5 := (hc i hlt).2.2.2.2.2.1
      have hg := at_get hlt
      obtain ⟨⟨⟨x0, x1, x2, x3, x4, x5⟩, xa, xc, xl⟩, hX⟩ : ∃ e, En.at E i = e := ⟨_, rfl⟩
      rw [hX] at c5 hg
      have HG := Lib.hid hg
      have i1 : (0 : Int) ≤ (i : Int) := by omega
      have i2 : (i : Int) < (E.length : Int) := by omega
      dsimp only at c5
      clear hno hbl hc hX hg
      by_cases h1 : x5 = no
      · subst h1
        by_cases h2 : 0 ≤ x5
        · have g2 : decide (0 ≤ x5) = true := decide_eq_true h2
          go_wp2_with fail
          go_ret
          have hv : byV (E.map En.p) x5 = i := byV_hit HG.out ⟨rfl, h2⟩ HN.out
          exact ⟨by rw [hv]; rfl, HB.out⟩
        · have g2 : decide (0 ≤ x5) = false := decide_eq_false h2
          go_wp2_with fail
          go_roundw
          case rel => exact ⟨i + 1, by omega, by go_num, fun j f hj hf => by
            by_cases e : j = i
            · subst e; rw [HG.out] at hf; cases hf; exact fun hh => h2 hh.2
            · exact HN.out j f (by omega) hf, HB.out⟩
          case measure => simp [intOf]; omega
      · have g1 : (x5 == no) = false := by rw [beq_eq_false_iff_ne]; exact h1
        go_wp2_with fail
        go_roundw
        case rel => exact ⟨i + 1, by omega, by go_num, fun j f hj hf => by
          by_cases e : j = i
          · subst e; rw [HG.out] at hf; cases hf; exact fun hh => h1 hh.1
          · exact HN.out j f (by omega) hf, HB.out⟩
        case measure => simp [intOf]; omega
    · obtain rfl : i = E.length := by omega
      clear hno hbl
      go_wp2_with fail
      go_ret
      exact ⟨by rw [show byV (E.map En.p) no = -1 from byV_none (fun j f hf => HN.out j f (by have := (List.getElem?_eq_some_iff.1 hf).1; simpa using this) hf)]; rfl, HB.out⟩

theorem rseq_ok (q : Nat) (a : Option Addr) (cap : Nat) (E : List En) (w : World) (h : RqAt w q a cap E) (hl : E.length ≤ 1000000) :
    Calls Tryd.prog 57 #[.pointer (some ⟨q, 0, none⟩)] w fun e w' => e = .returned (.int .i64 (seqOf (E.map En.p))) ∧ Below w.heap.size w w' := by
  have c0 : w.cell? ⟨q, 0, none⟩ = some (.slice a E.length cap) := h.blk.cell 0 rfl
  by_cases h0 : E.length = 0
  · obtain rfl : E = [] := List.eq_nil_of_length_eq_zero h0
    clear h
    go_enter Tryd.func57, Tryd.ntmps57
    go_wp2_with fail
    go_ret
    exact ⟨rfl, Below.refl _ _⟩
  · obtain ⟨j, hj⟩ : ∃ j, E.length = j + 1 := ⟨E.length - 1, by omega⟩
    have hlt : j < E.length := by omega
    obtain ⟨b, o, rfl, hb, hc⟩ := h.sl.at7 (by omega)
    have q3 := (hc j hlt).2.2.2.1
    have HE : Hid (seqOf (E.map En.p) = (En.at E j).s.seq) := by
      refine seqOf_at (x := (En.at E j).p) ?_
      rw [List.length_map, hj, Nat.add_sub_cancel]
      exact at_get hlt
    have i1 : IntKind.i64.wrap (((j + 1 : Nat) : Int) - 1) = (j : Int) := by rw [IntKind.wrap_i64]; omega
    have i2 : (0 : Int) ≤ (j : Int) := by omega
    have i3 : (j : Int) < ((j + 1 : Nat) : Int) := by omega
    have i5 : (((j + 1 : Nat) : Int) == 0) = false := by rw [beq_eq_false_iff_ne]; omega
    rw [hj] at c0
    obtain ⟨N, hN⟩ : ∃ N : Nat, j + 1 = N := ⟨_, rfl⟩
    rw [hN] at c0 i1 i3 i5
    obtain ⟨z, hz⟩ : ∃ z, (En.at E j).s.seq = z := ⟨_, rfl⟩
    rw [hz] at q3 HE
    clear h hc hj hN hz h0 hlt
    go_enter Tryd.func57, Tryd.ntmps57
    go_wp2_with (go_quiet (fail))
    go_ret
    exact ⟨by rw [HE.out]; rfl, below_draws _ _⟩

end Go.Proofs.YtpinhomalmknjaaDoor
/- The document's ledger: mirrors. -/
namespace Go.Proofs.YtpinhomalmknjaaDoor
open Go.RowKit Go.Sort Go.Shelf
set_option linter.unusedVariables false
set_option linter.unusedSimpArgs false
set_option maxRecDepth 100000

theorem neg_at (xs : List Ln) (j : Nat) (h : j < xs.length) : Ln.at (xs.map Ln.neg) j = Ln.neg (Ln.at xs j) := by
  unfold Ln.at
  simp only [List.getD_eq_getElem?_getD, List.getElem?_map, List.getElem?_eq_getElem h, Option.map_some, Option.getD_some]
theorem at_memL {xs : List Ln} {j : Nat} (h : j < xs.length) : Ln.at xs j ∈ xs := by
  unfold Ln.at
  rw [List.getD_eq_getElem?_getD, List.getElem?_eq_getElem h]
  exact List.getElem_mem h
theorem wrap_neg (a b : Int) (h1 : -9223372036854775807 ≤ a ∧ a ≤ 9223372036854775807) (h2 : -9223372036854775808 ≤ b ∧ b ≤ 9223372036854775807) : a = wrap64 (-b) ↔ -a = b := by
  unfold wrap64
  omega
set_option maxHeartbeats 8000000 in
theorem rmir_ok (x y : EnP) (a b : Option Addr) (ca cb : Nat) (w : World) (hx : LnAt w a x.ls) (hy : LnAt w b y.ls) (hl : x.ls.length ≤ 1000) (hm : y.ls.length ≤ 1000)
    (hmin : ∀ l ∈ x.ls, -9223372036854775807 ≤ l.a ∧ l.a ≤ 9223372036854775807) (hwy : AllWf y.ls) :
    Calls Tryd.prog 72 #[entV x.s a x.ls.length ca, entV y.s b y.ls.length cb] w fun e w' => e = .returned (.bool (mirB x y)) ∧ Below w.heap.size w w' := by
  obtain ⟨⟨a0, a1, a2, a3, a4, a5⟩, xs⟩ := x
  obtain ⟨⟨b0, b1, b2, b3, b4, b5⟩, ys⟩ := y
  dsimp only at hx hy hl hm hmin hwy ⊢
  obtain ⟨wa, hwa⟩ : ∃ wa, w.alloc (.cells (entCs ⟨a0, a1, a2, a3, a4, a5⟩ a xs.length ca) 90) = wa := ⟨_, rfl⟩
  obtain ⟨wb, hwb⟩ : ∃ wb, wa.alloc (.cells (entCs ⟨b0, b1, b2, b3, b4, b5⟩ b ys.length cb) 90) = wb := ⟨_, rfl⟩
  have k0 : Blk wa w.heap.size (entCs ⟨a0, a1, a2, a3, a4, a5⟩ a xs.length ca) 90 := by rw [← hwa]; exact Blk.new _ _ _
  have k1 : Blk wb wa.heap.size (entCs ⟨b0, b1, b2, b3, b4, b5⟩ b ys.length cb) 90 := by rw [← hwb]; exact Blk.new _ _ _
  have ba : Below w.heap.size w wa := by rw [← hwa]; exact (Below.refl _ _).alloc (Nat.le_refl _) _
  have bb : Below wa.heap.size wa wb := by rw [← hwb]; exact (Below.refl _ _).alloc (Nat.le_refl _) _
  have K0 := Lib.hid (k0.after bb)
  have K1 := Lib.hid k1
  have hbw : Below w.heap.size w wb := ba.trans (bb.mono ba.size)
  have HX := Lib.hid hx
  have HY := Lib.hid hy
  have HMn := Lib.hid hmin
  have HWy := Lib.hid hwy
  have p0 : wb.cell? ⟨w.heap.size, 0, none⟩ = some (.int .i64 a0) := K0.out.cell 0 rfl
  have p1 : wb.cell? ⟨w.heap.size, 1, none⟩ = some (.int .i64 a1) := K0.out.cell 1 rfl
  have p2 : wb.cell? ⟨w.heap.size, 2, none⟩ = some (.int .i64 a2) := K0.out.cell 2 rfl
  have p6 : wb.cell? ⟨w.heap.size, 6, none⟩ = some (.slice a xs.length ca) := K0.out.cell 6 rfl
  have q0 : wb.cell? ⟨wa.heap.size, 0, none⟩ = some (.int .i64 b0) := K1.out.cell 0 rfl
  have q1 : wb.cell? ⟨wa.heap.size, 1, none⟩ = some (.int .i64 b1) := K1.out.cell 1 rfl
  have q2 : wb.cell? ⟨wa.heap.size, 2, none⟩ = some (.int .i64 b2) := K1.out.cell 2 rfl
  have q6 : wb.cell? ⟨wa.heap.size, 6, none⟩ = some (.slice b ys.length cb) := K1.out.cell 6 rfl
  simp only [entCs] at hwa hwb
  obtain ⟨V, hV⟩ : ∃ V, mirB ⟨⟨a0, a1, a2, a3, a4, a5⟩, xs⟩ ⟨⟨b0, b1, b2, b3, b4, b5⟩, ys⟩ = V := ⟨_, rfl⟩
  rw [hV]
  have HVm := Lib.hid hV
  clear k0 k1 ba bb hx hy hmin hwy hV
  unfold entV
  by_cases h0 : a0 = b0
  case neg =>
    have HV : Hid (V = false) := by show _ = _; rw [← HVm.out]; simp [mirB, Six.tag, h0]
    have g0 : (a0 != b0) = true := by rw [bne_iff_ne]; exact h0
    clear h0
    go_enter Tryd.func72, Tryd.ntmps72
    go_wp2_with fail
    go_ret
    exact ⟨ret_bool (by rw [HV.out]), hbw⟩
  subst h0
  by_cases h1 : a1 = b1
  case neg =>
    have HV : Hid (V = false) := by show _ = _; rw [← HVm.out]; simp [mirB, Six.tag, h1]
    have g0 : (a1 != b1) = true := by rw [bne_iff_ne]; exact h1
    clear h1
    go_enter Tryd.func72, Tryd.ntmps72
    go_wp2_with fail
    go_ret
    exact ⟨ret_bool (by rw [HV.out]), hbw⟩
  subst h1
  by_cases h2 : a2 = b2
  case neg =>
    have HV : Hid (V = false) := by show _ = _; rw [← HVm.out]; simp [mirB, Six.tag, h2]
    have g0 : (a2 != b2) = true := by rw [bne_iff_ne]; exact h2
    clear h2
    go_enter Tryd.func72, Tryd.ntmps72
    go_wp2_with fail
    go_ret
    exact ⟨ret_bool (by rw [HV.out]), hbw⟩
  subst h2
  by_cases hlen : xs.length = ys.length
  case neg =>
    have HV : Hid (V = false) := by
      show _ = _
      rw [← HVm.out]
      have : ¬ (xs.map Ln.neg = ys) := fun h => hlen (by rw [← h]; simp)
      simp [mirB, this]
    have g0 : ((xs.length : Int) != (ys.length : Int)) = true := by rw [bne_iff_ne]; omega
    have g1 : (xs.length != ys.length) = true := by rw [bne_iff_ne]; omega
    clear hlen
    go_enter Tryd.func72, Tryd.ntmps72
    go_wp2_with fail
    go_ret
    exact ⟨ret_bool (by rw [HV.out]), hbw⟩
  have HVd : Hid (V = decide (xs.map Ln.neg = ys)) := by show _ = _; rw [← HVm.out]; simp [mirB, Six.tag]
  clear HVm
  obtain ⟨n, hN⟩ : ∃ n, ys.length = n := ⟨_, rfl⟩
  have HL1 := Lib.hid (hlen.trans hN)
  have HL2 := Lib.hid hN
  rw [hN] at hlen hm q6 hwb
  rw [hN]
  rw [hlen] at hl p6 hwa
  rw [hlen]
  clear hlen hN
  go_enter Tryd.func72, Tryd.ntmps72
  go_wp2_with fail
  clear hwa hwb p0 p1 p2 p6 q0 q1 q2 q6
  go_loopw [5] (fun i wr => ∃ k : Nat, k ≤ n ∧ i = .int .i64 k ∧ (∀ j, j < k → Ln.neg (Ln.at xs j) = Ln.at ys j) ∧ Below wb.heap.size wb wr) (fun i _ => n - (intOf i).toNat)
  case atStart => exact ⟨0, by omega, rfl, fun j hj => absurd hj (by omega), Below.refl _ _⟩
  case round =>
    obtain ⟨k, hk, rfl, hall, hbl⟩ := hrel
    have HA := Lib.hid hall
    clear hall
    have p6 : wr.cell? ⟨w.heap.size, 6, none⟩ = some (.slice a n ca) := by rw [← HL1.out]; exact (K0.out.after hbl).cell 6 rfl
    have q6 : wr.cell? ⟨wa.heap.size, 6, none⟩ = some (.slice b n cb) := by rw [← HL2.out]; exact (K1.out.after hbl).cell 6 rfl
    have hend : Below w.heap.size w wr := hbw.trans (hbl.mono hbw.size)
    by_cases hlt : k < n
    · obtain ⟨ba, oa, rfl, hca⟩ := HX.out.after hend (by have := HL1.out; omega)
      obtain ⟨bb, ob, rfl, hcb⟩ := HY.out.after hend (by have := HL2.out; omega)
      obtain ⟨c0, c1, c2⟩ := hca k (by have := HL1.out; omega)
      obtain ⟨d0, d1, d2⟩ := hcb k (by have := HL2.out; omega)
      have i1 : (0 : Int) ≤ (k : Int) := by omega
      have i2 : (k : Int) < (n : Int) := by omega
      have hma := HMn.out _ (at_memL (xs := xs) (j := k) (by have := HL1.out; omega))
      have hwb := (HWy.out _ (at_memL (xs := ys) (j := k) (by have := HL2.out; omega))).2.2
      obtain ⟨⟨xp, xc, xa⟩, hX⟩ : ∃ l, Ln.at xs k = l := ⟨_, rfl⟩
      obtain ⟨⟨yp, yc, ya⟩, hY⟩ : ∃ l, Ln.at ys k = l := ⟨_, rfl⟩
      rw [hX] at c0 c1 c2 hma
      rw [hY] at d0 d1 d2 hwb
      dsimp only at c0 c1 c2 d0 d1 d2 hma hwb
      have hwn := wrap_neg xa ya hma hwb
      have HNo : Hid (¬ (Ln.neg (Ln.at xs k) = Ln.at ys k) → V = false) := fun hne => by
        rw [HVd.out, decide_eq_false_iff_not]
        intro e
        exact hne (by rw [← e, neg_at _ _ (by have := HL1.out; omega)])
      have HEq : Hid ((Ln.neg (Ln.at xs k) = Ln.at ys k) ↔ (xp = yp ∧ xc = yc ∧ -xa = ya)) := by
        show _ ↔ _
        rw [hX, hY]
        simp [Ln.neg]
      have HWn := Lib.hid hwn
      clear hca hcb hX hY hwn hma hwb
      by_cases e0 : xp = yp
      case neg =>
        have HV : Hid (V = false) := HNo.out fun h => e0 (HEq.out.1 h).1
        have g0 : (xp != yp) = true := by rw [bne_iff_ne]; exact e0
        clear e0
        go_wp2_with (go_quiet (fail))
        go_ret
        exact ⟨ret_bool (by rw [HV.out]), hend.trans (below_draws _ _)⟩
      subst e0
      by_cases e1 : xc = yc
      case neg =>
        have HV : Hid (V = false) := HNo.out fun h => e1 (HEq.out.1 h).2.1
        have g0 : (xc != yc) = true := by rw [bne_iff_ne]; exact e1
        clear e1
        go_wp2_with (go_quiet (fail))
        go_ret
        exact ⟨ret_bool (by rw [HV.out]), hend.trans (below_draws _ _)⟩
      subst e1
      by_cases e2 : xa = wrap64 (-ya)
      case neg =>
        have HV : Hid (V = false) := HNo.out fun h => e2 (HWn.out.2 (HEq.out.1 h).2.2)
        have g0 : (xa != wrap64 (-ya)) = true := by rw [bne_iff_ne]; exact e2
        clear e2
        go_wp2_with (go_quiet (fail))
        go_ret
        exact ⟨ret_bool (by rw [HV.out]), hend.trans (below_draws _ _)⟩
      have HEk : Hid (Ln.neg (Ln.at xs k) = Ln.at ys k) := HEq.out.2 ⟨rfl, rfl, HWn.out.1 e2⟩
      have g0 : (xa != wrap64 (-ya)) = false := by rw [bne_eq_false_iff_eq]; exact e2
      clear e2
      go_wp2_with (go_quiet (fail))
      go_roundw
      case rel => exact ⟨k + 1, by omega, by go_num, fun j hj => by
        rcases Nat.lt_or_ge j k with g | g
        · exact HA.out j g
        · obtain rfl : j = k := by omega
          exact HEk.out, hbl.trans (below_draws _ _)⟩
      case measure => simp [intOf]; omega
    · obtain rfl : k = n := by omega
      have HV : Hid (V = true) := by
        show _ = _
        rw [HVd.out, decide_eq_true_iff]
        refine at_eq_list _ _ (by rw [List.length_map]; exact HL1.out.trans HL2.out.symm) fun j hj => ?_
        rw [List.length_map] at hj
        rw [neg_at _ _ hj]
        exact HA.out j (by have := HL1.out; omega)
      go_wp2_with fail
      go_ret
      exact ⟨ret_bool (by rw [HV.out]), hend⟩

end Go.Proofs.YtpinhomalmknjaaDoor
