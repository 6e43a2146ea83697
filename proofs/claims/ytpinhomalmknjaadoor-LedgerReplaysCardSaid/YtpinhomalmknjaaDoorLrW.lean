/- Books that are written off: the plain law; calls done one behind the other. -/
import Derived.Test.YtpinhomalmknjaaDoorQd
import Derived.Test.YtpinhomalmknjaaDoorEntZ
namespace Go.Proofs.YtpinhomalmknjaaDoor
open Go.RowKit Go.Sort Go.Shelf
set_option linter.unusedVariables false
set_option linter.unusedSimpArgs false
set_option maxRecDepth 100000

theorem revI_take {L : List EnP} {j : Nat} {no : Int} (h : ∀ i e, i < j → L[i]? = some e → ¬ (e.s.ref = no ∧ 0 ≤ no)) : revI (L.take j) no = none := by
  unfold revI
  rw [List.findIdx?_eq_none_iff]
  intro e he
  obtain ⟨i, hi, rfl⟩ := List.getElem_of_mem he
  rw [List.length_take] at hi
  have := h i (L[i]'(by omega)) (by omega) (List.getElem?_eq_getElem (by omega))
  rw [List.getElem_take]
  simpa using this
theorem WL.wrong_take {L : List EnP} (h : WL L) {j : Nat} {e : EnP} (he : L[j]? = some e) : wrongE (L.take j) e = 0 := by
  have hc := h.ck e (List.mem_of_getElem? he)
  by_cases hr : e.s.ref = -1
  · exact wrongE_new hc hr
  · obtain ⟨old, h1, h2, h3, h4⟩ := h.ref j e he hr
    have h5 := (h.refs he hr).1
    rw [wrongE_in hc hr (old := old) (by rw [List.getElem?_take_of_lt h2]; exact h1)]
    have hv : revI (L.take j) e.s.ref = none := revI_take fun i f hi hf hh => by
      have := h.one i j f e hf he hh.1 (by rw [hh.1]; exact hr)
      omega
    rw [hv, if_neg (by simp), if_neg (by simpa using h3), if_pos h4]
theorem WL.takeW {L : List EnP} (h : WL L) (j : Nat) : WL (L.take j) := by
  refine ⟨fun e he => h.ck e (List.mem_of_mem_take he), fun k e hk hr => ?_, fun i k e f hi hk he hr => ?_, h.seq.sublist (List.take_sublist j L)⟩
  · have hkj : k < j := by have := (List.getElem?_eq_some_iff.1 hk).1; rw [List.length_take] at this; omega
    rw [List.getElem?_take_of_lt hkj] at hk
    obtain ⟨old, h1, h2, h3⟩ := h.ref k e hk hr
    exact ⟨old, by rw [List.getElem?_take_of_lt (by omega)]; exact h1, h2, h3⟩
  · have hij : i < j := by have := (List.getElem?_eq_some_iff.1 hi).1; rw [List.length_take] at this; omega
    have hkj : k < j := by have := (List.getElem?_eq_some_iff.1 hk).1; rw [List.length_take] at this; omega
    rw [List.getElem?_take_of_lt hij] at hi
    rw [List.getElem?_take_of_lt hkj] at hk
    exact h.one i k e f hi hk he hr
theorem seqOf_take {L : List EnP} (h : WL L) {j : Nat} {e : EnP} (he : L[j]? = some e) : seqOf (L.take j) ≤ e.s.seq := by
  unfold seqOf
  have h0 := (check_nums (h.ck e (List.mem_of_getElem? he))).1
  cases hg : (L.take j).getLast? with
  | none => exact h0
  | some f =>
    obtain ⟨hj, hje⟩ := List.getElem?_eq_some_iff.1 he
    rw [List.getLast?_eq_getElem?] at hg
    have hlt := (List.getElem?_eq_some_iff.1 hg).1
    rw [List.length_take] at hlt hg
    rw [List.getElem?_take_of_lt (by omega)] at hg
    obtain ⟨hi, hie⟩ := List.getElem?_eq_some_iff.1 hg
    have := List.pairwise_iff_getElem.1 h.seq _ _ hi hj (by omega)
    rw [hie, hje] at this
    exact this
theorem stamp_self (e : EnP) : stamp e.s.per e.s.seq e = e := rfl
/-- What is written off is put. -/
theorem WL.off {L : List EnP} (h : WL L) (hp : PerOk L) {j : Nat} {e : EnP} (he : L[j]? = some e) : postE (decide (0 ≤ e.s.per ∧ e.s.per ≤ lastP 30)) (decide (e.s.per < 0)) e.s.per e.s.seq (L.take j) [e] = 0 ∧ postL (decide (0 ≤ e.s.per ∧ e.s.per ≤ lastP 30)) (decide (e.s.per < 0)) e.s.per e.s.seq (L.take j) [e] = L.take (j + 1) := by
  have hm := List.mem_of_getElem? he
  obtain ⟨p0, p1⟩ := hp e hm
  obtain ⟨s0, _⟩ := check_nums (h.ck e hm)
  have hE : postE (decide (0 ≤ e.s.per ∧ e.s.per ≤ lastP 30)) (decide (e.s.per < 0)) e.s.per e.s.seq (L.take j) [e] = 0 := by
    rw [decide_eq_true (show 0 ≤ e.s.per ∧ e.s.per ≤ lastP 30 from ⟨p0, p1⟩), decide_eq_false (show ¬ e.s.per < 0 by omega)]
    unfold postE
    have hq := seqOf_take h he
    rw [if_neg (by decide), if_neg (by decide), if_neg (by omega)]
    unfold postK
    rw [if_pos (h.wrong_take he)]
    rfl
  refine ⟨hE, ?_⟩
  unfold postL
  rw [if_pos hE]
  obtain ⟨hj, hje⟩ := List.getElem?_eq_some_iff.1 he
  rw [List.take_succ_eq_append_getElem hj, hje]
  rfl
theorem BkS.more {W : World} {p b s i m m' : Nat} {L : List EnP} {A : World} (h : BkS W p b s i m L A) (hm : m ≤ m') : BkS W p b s i m' L A := ⟨h.ex, h.wl, h.per, h.pb, Nat.le_trans h.len hm, h.be⟩
theorem Turn.drop3 {p b q : Nat} {w0 w w' : World} (h0 : Below w0.heap.size w0 w) (t : Turn [p, b, q] w w') (hq : w0.heap.size ≤ q) : Turn [p, b] w0 w' :=
  ⟨t.os.trans h0.os, t.tape.trans h0.tape, t.output.trans h0.output, Nat.le_trans h0.size t.size, fun k hk hn => (t.block k (by have := h0.size; omega) (by simp at hn ⊢; omega)).trans (h0.block k hk)⟩
theorem RqOk.new (w : World) : RqOk (w.alloc (.cells #[.slice none 0 0] 40)) w.heap.size none 0 [] :=
  ⟨⟨Blk.new _ _ _, ⟨fun h => absurd h (by simp), Nat.le_refl _, Nat.zero_le _, .inl ⟨rfl, rfl, rfl⟩⟩, fun e he => by simp at he⟩, fun _ => ⟨rfl, rfl⟩⟩
/-- The books of a loop of calls, and of the others'. -/
structure LpS (W : World) (p b s i : Nat) (wr : World) : Prop where
  ex : ∃ L, BkS W p b s i (6 * i) L wr ∧ PerOk L
structure YyS (py b2 s2 : Nat) (wr : World) : Prop where
  y : ∃ bm a cap, LgAt wr py bm a cap []
  per : Per wr b2 s2 30 0
theorem YyS.after {py b2 s2 : Nat} {A C : World} (h : YyS py b2 s2 A) (hb : Below A.heap.size A C) : YyS py b2 s2 C := by
  obtain ⟨⟨bm, a, cap, h1⟩, h2⟩ := h
  exact ⟨⟨bm, a, cap, h1.after hb⟩, h2.after hb⟩
theorem YyS.turn {py b2 s2 : Nat} {A C : World} {bs : List Nat} (h : YyS py b2 s2 A) (t : Turn bs A C) (hb : ∀ q ∈ bs, Bx A q) (h1 : py ∉ bs) (h2 : b2 ∉ bs) (h3 : s2 ∉ bs) : YyS py b2 s2 C := by
  obtain ⟨⟨bm, a, cap, k1⟩, k2⟩ := h
  exact ⟨⟨bm, a, cap, k1.turn2 t hb h1⟩, k2.turn t h2 h3⟩
theorem BkS.bxs {W : World} {p b s i m : Nat} {L : List EnP} {A : World} (h : BkS W p b s i m L A) : ∀ q ∈ [p, b], Bx A q := fun q hq => by
  obtain ⟨⟨bm, a, cap, E, h1, _⟩, _, _, h4, _⟩ := h
  rcases List.mem_cons.1 hq with rfl | hq
  · exact .inl h1.box
  · rw [List.mem_singleton.1 hq]; exact .inr h4

end Go.Proofs.YtpinhomalmknjaaDoor
/- The statement LedgerReplays: its walk. -/
namespace Go.Proofs.YtpinhomalmknjaaDoor
open Go.RowKit Go.Sort Go.Shelf
set_option linter.unusedVariables false
set_option linter.unusedSimpArgs false
set_option maxRecDepth 100000

/-- Both books, while the one is written off into the other one. -/
structure RpS (W : World) (p py b2 s2 : Nat) (L : List EnP) (ae : Option Addr) (ce : Nat) (Z : List En) (j : Nat) (wr : World) : Prop where
  x : ∃ bm a cap E, LgAt wr p bm a cap E ∧ E.map En.p = L
  y : ∃ bm a cap E, LgAt wr py bm a cap E ∧ E.map En.p = L.take j
  per : Per wr b2 s2 30 0
  sl : SlAt wr 7 En.cs ae ce Z
  ok : ∀ e ∈ Z, EnOk wr e
  be : Below W.heap.size W wr
theorem RpS.after {W : World} {p py b2 s2 : Nat} {L : List EnP} {ae : Option Addr} {ce : Nat} {Z : List En} {j : Nat} {A C : World} (h : RpS W p py b2 s2 L ae ce Z j A) (hb : Below A.heap.size A C) : RpS W p py b2 s2 L ae ce Z j C := by
  obtain ⟨⟨bm, a, cap, E, h1, h2⟩, ⟨bm', a', cap', E', h3, h4⟩, h5, h6, h7, h8⟩ := h
  exact ⟨⟨bm, a, cap, E, h1.after hb, h2⟩, ⟨bm', a', cap', E', h3.after hb, h4⟩, h5.after hb, h6.after hb, fun e he => (h7 e he).after hb, h8.trans (hb.mono h8.size)⟩
/-- Behind a Post of the other books. -/
def OffEnd (W : World) (p py b2 s2 : Nat) (L : List EnP) (ae : Option Addr) (ce : Nat) (Z : List En) (j : Nat) (e : Ending) (w' : World) : Prop := e = .returned (.tuple #[.int .i64 (j : Int), .int .i64 0]) ∧ RpS W p py b2 s2 L ae ce Z (j + 1) w'
theorem RpS.post {W : World} {p py b2 s2 : Nat} {L : List EnP} {ae : Option Addr} {ce : Nat} {Z : List En} {j : Nat} {A : World} (h : RpS W p py b2 s2 L ae ce Z j A) (hR : RulesAt W) (hL : WL L) (hl : L.length ≤ 300) (hk : PerOk L) (hz : Z.map En.p = L) (hj : j < Z.length) (hWp : W.heap.size ≤ py) (n1 : p ≠ py) (n2 : b2 ≠ py) (n3 : s2 ≠ py)
    (B : Nat) (hB : Blk A B (En.at Z j).cs.toArray 27) :
    Calls Tryd.prog 20 #[.pointer (some ⟨py, 0, none⟩), .pointer (some ⟨b2, 0, none⟩), .int .i64 (En.at Z j).s.per, .int .i64 (En.at Z j).s.seq, .slice (some ⟨B, 0, none⟩) 1 1] A (OffEnd W p py b2 s2 L ae ce Z j) := by
  obtain ⟨⟨bm, a, cap, E, h1, h2⟩, ⟨bm', a', cap', E', h3, h4⟩, h5, h6, h7, h8⟩ := h
  have he : L[j]? = some (En.at Z j).p := by rw [← hz]; exact at_get hj
  have hlen : Z.length = L.length := by rw [← hz]; simp
  have hEl : E'.length = j := by have := congrArg List.length h4; simp at this; omega
  have hok := h7 _ (at_memE hj)
  have hrw : (Lit.int .i64 (En.at Z j).s.ref).wf = true := by
    have hc := check_nums (hL.ck _ (List.mem_of_getElem? he))
    by_cases hr : (En.at Z j).s.ref = -1
    · rw [hr]; decide
    · have := hL.refs he hr
      dsimp only [En.p] at this
      have h9 : 0 ≤ (En.at Z j).s.ref ∧ (En.at Z j).s.ref < 1000 := by omega
      have : IntKind.i64.min ≤ (En.at Z j).s.ref ∧ (En.at Z j).s.ref ≤ 9223372036854775807 := by rw [show IntKind.i64.min = -9223372036854775808 from rfl]; omega
      simpa [Lit.wf] using this
  obtain ⟨o1, o2⟩ := hL.off hk he
  have := lpost_ok py bm' a' cap' E' b2 s2 30 0 (En.at Z j).s.per (En.at Z j).s.seq (some ⟨B, 0, none⟩) 1 [En.at Z j] A (hR.after h8) h3 (by rw [h4]; exact hL.takeW j) (by omega) h5 (by omega) (by omega) (ens_one hB hok) (by simp) (by simpa using hrw)
  refine this.mono ?_
  rintro e C ⟨bm2, a2, cap2, E2, rfl, k1, k2, t⟩
  rw [h4] at k2 ⊢
  have o1' : postE (decide (0 ≤ (En.at Z j).s.per ∧ (En.at Z j).s.per ≤ lastP 30)) (decide ((En.at Z j).s.per < 0)) (En.at Z j).s.per (En.at Z j).s.seq (L.take j) ([En.at Z j].map En.p) = 0 := o1
  have o2' : postL (decide (0 ≤ (En.at Z j).s.per ∧ (En.at Z j).s.per ≤ lastP 30)) (decide ((En.at Z j).s.per < 0)) (En.at Z j).s.per (En.at Z j).s.seq (L.take j) ([En.at Z j].map En.p) = L.take (j + 1) := o2
  have hb : ∀ q ∈ [py], Bx A q := fun q hq => by rw [List.mem_singleton.1 hq]; exact .inl h3.box
  refine ⟨by rw [o1', if_pos rfl, hEl], ⟨bm, a, cap, E, h1.turn2 t hb (by simpa using n1), h2⟩, ⟨bm2, a2, cap2, E2, k1, by rw [k2]; exact o2'⟩, h5.turn t (by simpa using n2) (by simpa using n3), h6.turn2 t hb, fun e he => (h7 e he).turn2 t hb, h8.trans (t.below h8.size fun q hq => by rw [List.mem_singleton.1 hq]; exact hWp)⟩

theorem wf_small {n : Int} (h : 0 ≤ n ∧ n ≤ 1000000) : (Lit.int .i64 n).wf = true := by
  have : IntKind.i64.min ≤ n ∧ n ≤ 9223372036854775807 := by rw [show IntKind.i64.min = -9223372036854775808 from rfl]; omega
  simpa [Lit.wf] using this
theorem rev_vals {L : List EnP} (h : WL L) (k : Nat) : ∃ (rv : Int) (rb : Bool), (match revI L (k : Int) with | some i => (i : Int) | none => 0) = rv ∧ (revI L (k : Int)).isSome = rb ∧ (rb = true → (k : Int) < rv) := by
  refine ⟨_, _, rfl, rfl, fun hb => ?_⟩
  cases hv : revI L (k : Int) with
  | none => rw [hv] at hb; cases hb
  | some i =>
    obtain ⟨e, he, hr, _⟩ := revI_some hv
    have := h.refs he (by rw [hr]; omega)
    rw [hr] at this
    exact this.2
theorem RpS.rev {W : World} {p py b2 s2 : Nat} {L : List EnP} {ae : Option Addr} {ce : Nat} {Z : List En} {j : Nat} {A : World} (h : RpS W p py b2 s2 L ae ce Z j A) (hL : WL L) (k : Nat) (hk : k ≤ 1000) {rv : Int} {rb : Bool} (h1 : (match revI L (k : Int) with | some i => (i : Int) | none => 0) = rv) (h2 : (revI L (k : Int)).isSome = rb) :
    Calls Tryd.prog 22 #[.pointer (some ⟨p, 0, none⟩), .int .i64 (k : Int)] A fun e w' => e = .returned (.tuple #[.int .i64 rv, .bool rb]) ∧ w' = A := by
  obtain ⟨⟨bm, a, cap, E, k1, k2⟩, _⟩ := h
  have := lrev_ok p bm a cap E (k : Int) A k1 (by rw [k2]; exact hL) (wf_small (by omega))
  rw [k2] at this
  refine this.mono ?_
  rintro e w' ⟨rfl, hw⟩
  refine ⟨?_, hw⟩
  rw [← h1, ← h2]
  cases revI L (k : Int) <;> rfl
theorem RpS.revY {W : World} {p py b2 s2 : Nat} {L : List EnP} {ae : Option Addr} {ce : Nat} {Z : List En} {j : Nat} {A : World} (h : RpS W p py b2 s2 L ae ce Z j A) (hj : L.length ≤ j) (hL : WL L) (k : Nat) (hk : k ≤ 1000) {rv : Int} {rb : Bool} (h1 : (match revI L (k : Int) with | some i => (i : Int) | none => 0) = rv) (h2 : (revI L (k : Int)).isSome = rb) :
    Calls Tryd.prog 22 #[.pointer (some ⟨py, 0, none⟩), .int .i64 (k : Int)] A fun e w' => e = .returned (.tuple #[.int .i64 rv, .bool rb]) ∧ w' = A := by
  obtain ⟨_, ⟨bm, a, cap, E, k1, k2⟩, _⟩ := h
  rw [List.take_of_length_le hj] at k2
  have := lrev_ok py bm a cap E (k : Int) A k1 (by rw [k2]; exact hL) (wf_small (by omega))
  rw [k2] at this
  refine this.mono ?_
  rintro e w' ⟨rfl, hw⟩
  refine ⟨?_, hw⟩
  rw [← h1, ← h2]
  cases revI L (k : Int) <;> rfl
theorem RpS.seqs {W : World} {p py b2 s2 : Nat} {L : List EnP} {ae : Option Addr} {ce : Nat} {Z : List En} {j : Nat} {A : World} (h : RpS W p py b2 s2 L ae ce Z j A) (hl : L.length ≤ 1000) (hj : L.length ≤ j) {sq : Int} (hs : seqOf L = sq) :
    Calls Tryd.prog 28 #[.pointer (some ⟨p, 0, none⟩)] A (fun e w' => e = .returned (.int .i64 sq) ∧ Below A.heap.size A w') ∧ Calls Tryd.prog 28 #[.pointer (some ⟨py, 0, none⟩)] A (fun e w' => e = .returned (.int .i64 sq) ∧ Below A.heap.size A w') := by
  obtain ⟨⟨bm, a, cap, E, k1, k2⟩, ⟨bm', a', cap', E', k3, k4⟩, _⟩ := h
  rw [List.take_of_length_le hj] at k4
  have e1 : E.length ≤ 1000 := by have := congrArg List.length k2; simp at this; omega
  have e2 : E'.length ≤ 1000 := by have := congrArg List.length k4; simp at this; omega
  have h1 := lseq_ok p bm a cap E A k1 (by omega)
  have h2 := lseq_ok py bm' a' cap' E' A k3 (by omega)
  rw [k2, hs] at h1
  rw [k4, hs] at h2
  exact ⟨h1, h2⟩

end Go.Proofs.YtpinhomalmknjaaDoor
/- The statement LedgerReplays: its walk. -/
namespace Go.Proofs.YtpinhomalmknjaaDoor
open Go.RowKit Go.Sort Go.Shelf
set_option linter.unusedVariables false
set_option linter.unusedSimpArgs false
set_option maxRecDepth 100000

theorem same_at' {Z Z2 : List En} {L : List EnP} (h : Z2.map En.p = L) (hL : Z.map En.p = L) : ∀ k, k < Z.length → (En.at Z2 k).s = (En.at Z k).s ∧ (En.at Z2 k).ls = (En.at Z k).ls := fun k hk => by
  have h1 : (Z2.map En.p)[k]? = (Z.map En.p)[k]? := by rw [h, hL]
  have hk2 : k < Z2.length := by have := congrArg List.length (h.trans hL.symm); simp at this; omega
  rw [at_get hk, at_get hk2] at h1
  have := Option.some.inj h1
  exact ⟨congrArg EnP.s this, congrArg EnP.ls this⟩
theorem at_okE' {w : World} {Z : List En} (h : ∀ e ∈ Z, EnOk w e) {k : Nat} (hk : k < Z.length) : EnOk w (En.at Z k) := h _ (at_memE hk)
set_option maxHeartbeats 200000000 in
theorem walk_LedgerReplays (w : World) (hR : RulesAt w) (a : Option Addr) (cap : Nat) (ops : List Opc) (h : OpsIn w a ops) (hl : ops.length ≤ maxLen) :
    Calls Tryd.prog 6 #[.slice a ops.length cap] w (TrueEnd w) := by
  have H := Lib.hid h
  have HR := Lib.hid hR
  have HFw := Lib.hid (few15 a cap ops w h hl)
  have hl' : ops.length ≤ 9223372036854775807 := by unfold maxLen at hl; omega
  clear hR h hl
  go_enter Tryd.func6, Tryd.ntmps6
  go_wp2_with fail
  with_reducible refine HFw.out.mono ?_
  rintro e w1 ⟨bb, rfl, hfew, hb1⟩
  have HFew := Lib.hid hfew
  have HB1 := Lib.hid hb1
  clear hfew hb1 HFw
  cases bb
  · go_wp2_with fail
    with_reducible refine (awake15 w1 (HR.out.after HB1.out)).mono ?_
    rintro e w2 ⟨rfl, hb2⟩
    go_wp2_with fail
    go_ret
    exact ⟨rfl, HB1.out.trans (hb2.mono HB1.out.size)⟩
  have hw1 : 0 < w.heap.size := World.block_lt_of_cell? w _ HR.out.r0
  obtain ⟨hn20, hfew⟩ := HFew.out rfl
  have HFew2 := Lib.hid hfew
  clear hfew HFew
  go_wp2_with fail
  with_reducible refine (lnew_ok w1).mono ?_
  rintro e w2 ⟨p, bm, la, lc, rfl, hL2, hb2, hp2, -⟩
  have HL2 := Lib.hid hL2
  have HB2 := Lib.hid (HB1.out.trans (hb2.mono HB1.out.size))
  have hpw : p < w2.heap.size := hL2.blk.lt
  have zp : w.heap.size ≤ p := by have := HB1.out.size; omega
  clear hL2 hb2
  go_wp2_with fail
  with_reducible refine (lnew_ok w2).mono ?_
  rintro e w3 ⟨py, bmy, lay, lcy, rfl, hL3, hb3, hp3, -⟩
  have HY3 := Lib.hid hL3
  have HL3 := Lib.hid (HL2.out.after hb3)
  have HB3 := Lib.hid (HB2.out.trans (hb3.mono HB2.out.size))
  have hpyw : py < w3.heap.size := hL3.blk.lt
  have z2 := HB2.out.size
  have z3 := hb3.size
  clear hL3 hb3 HL2
  go_wp2_with fail
  with_reducible refine (pnew_box 30 w3 (by omega) (by omega)).mono ?_
  rintro e w4 ⟨b, s, rfl, hP4, hX4, hb4, hzb, hzs, hsb⟩
  have z4 := hb4.size
  have hbl := hP4.lt
  have HP4 := Lib.hid hP4
  have HX4 := Lib.hid hX4
  have HY4 := Lib.hid (HY3.out.after hb4)
  have HL4 := Lib.hid (HL3.out.after hb4)
  have HB4 := Lib.hid (HB3.out.trans (hb4.mono HB3.out.size))
  clear hP4 hX4 hb4 HL3 HY3
  go_wp2_with fail
  with_reducible refine (pnew_box 30 w4 (by omega) (by omega)).mono ?_
  rintro e w5 ⟨b2, s2, rfl, hP5, hX5, hb5, hzb2, hzs2, hsb2⟩
  have HA : Hid (Apart3 w p b s) := ⟨zp, by omega, by omega, by omega, by omega, hsb⟩
  have HY5 : Hid (YyS py b2 s2 w5) := ⟨⟨bmy, lay, lcy, HY4.out.after hb5⟩, hP5⟩
  have HE5 : Hid (BkS w p b s 0 (6 * 0) [] w5 ∧ PerOk []) := ⟨⟨⟨bm, la, lc, [], HL4.out.after hb5, rfl⟩, WL.nil, ⟨0, HP4.out.after hb5, by omega, by omega⟩, HX4.out.after hb5, by simp, HB4.out.trans (hb5.mono HB4.out.size)⟩, fun e he => by simp at he⟩
  have HNe : Hid (p ≠ py ∧ b ≠ py ∧ b2 ≠ p ∧ s2 ≠ p ∧ b2 ≠ b ∧ s2 ≠ b ∧ b2 ≠ py ∧ s2 ≠ py) := by show _ ∧ _; omega
  have hWpy : w.heap.size ≤ py := by omega
  clear hP5 hX5 hb5 HL4 HY4 HP4 HX4 HB4 HB3 HB2 HB1 z2 z3 z4 hzb hzs hsb hzb2 hzs2 hsb2 hpw hpyw hbl zp
  go_wp2_with fail
  go_loopw [9] (fun u wr => ∃ i : Nat, i ≤ ops.length ∧ u = .int .i64 i ∧ ∃ L, Hid (BkS w p b s i (6 * i) L wr ∧ PerOk L ∧ YyS py b2 s2 wr)) (fun u _ => ops.length - (intOf u).toNat)
  case atStart => exact ⟨0, by omega, rfl, [], HE5.out.1, HE5.out.2, HY5.out⟩
  case round =>
    obtain ⟨i, hi, rfl, L, HE⟩ := hrel
    by_cases hlt : i < ops.length
    · obtain ⟨ab, ao, rfl, hbb, hcell⟩ := H.out.cells (by omega)
      have hC := Lib.hid (hcell i hlt)
      have hO := Lib.hid (H.out.2 i hlt)
      have hF : Hid (FewO (Opc.at ops i)) := Lib.hid (HFew2.out _ (by unfold Opc.at; rw [List.getD_eq_getElem?_getD, List.getElem?_eq_getElem hlt]; exact List.getElem_mem hlt))
      obtain ⟨⟨op, os, ok, oa, ocap, oes⟩, hOO⟩ : ∃ x, Opc.at ops i = x := ⟨_, rfl⟩
      rw [hOO] at hC hO hF
      have hrw : Hid (∀ x ∈ oes, (Lit.int .i64 x.s.ref).wf = true) := fun x hx => by
        obtain ⟨k, hk, rfl⟩ := List.getElem_of_mem hx
        have := (hO.out.en.2 k hk).rw
        unfold En.at at this
        rwa [List.getD_eq_getElem?_getD, List.getElem?_eq_getElem hk] at this
      have i1 : (0 : Int) ≤ (i : Int) := by omega
      have i2 : (i : Int) < (ops.length : Int) := by omega
      clear hcell hOO
      obtain ⟨c0, c1, c2, c3⟩ := hC.out.after HE.out.1.be hbb
      dsimp only at c0 c1 c2 c3
      obtain ⟨wq, hwq⟩ : ∃ W, wr.alloc (.cells #[.slice none 0 0] 40) = W := ⟨_, rfl⟩
      have hbq : Below wr.heap.size wr wq := by rw [← hwq]; exact (Below.refl _ _).alloc (Nat.le_refl _) _
      have hRq : RqOk wq wr.heap.size none 0 [] := by rw [← hwq]; exact RqOk.new wr
      have HWq := Lib.hid hwq
      have hlt3 : p < wr.heap.size ∧ b < wr.heap.size ∧ s < wr.heap.size := by
        obtain ⟨⟨bm, a, cap, E, h1, _⟩, _, ⟨l, h2, _⟩, _⟩ := HE.out.1
        exact ⟨h1.blk.lt, h2.lt.1, h2.lt.2⟩
      have HDo := Lib.hid (does_ok w p b s i (6 * i) L wr.heap.size none 0 [] op os ok oa ocap oes wq (HE.out.1.after hbq) HA.out HR.out (by omega) (by omega) hRq (by simp) WL.nil HE.out.1.be.size (by omega) (by omega) (by omega) (hO.out.en.few hF.out.2) (by have := hF.out.1; dsimp only at this; omega) hrw.out)
      have HBq := Lib.hid hbq
      have hab : ab < wr.heap.size := by have := HE.out.1.be.size; omega
      clear hwq hbq hRq hlt3
      go_wp2_with fail
      rw [HWq.out]
      with_reducible refine HDo.out.mono ?_
      rintro e w7 ⟨r, lk, ra, rc, R', rfl, hb7, _, ht7, _⟩
      have hT : Turn [p, b] wr w7 := Turn.drop3 HBq.out ht7 (Nat.le_refl _)
      have HN : Hid (BkS w p b s (i + 1) (6 * (i + 1)) (postL (decide (0 ≤ op ∧ op ≤ lastP 30)) lk op os L (oes.map En.p)) w7 ∧ PerOk (postL (decide (0 ≤ op ∧ op ≤ lastP 30)) lk op os L (oes.map En.p)) ∧ YyS py b2 s2 w7) :=
        ⟨hb7.more (by have := hF.out.1; dsimp only at this; omega), HE.out.2.1.post, HE.out.2.2.turn hT HE.out.1.bxs (by have := HNe.out; simp; omega) (by have := HNe.out; simp; omega) (by have := HNe.out; simp; omega)⟩
      clear hb7 ht7 hT HDo HWq HBq c0 c1 c2 c3
      go_wp2_with fail
      go_roundw
      case rel => exact ⟨i + 1, by omega, by go_num, _, HN⟩
      case measure => simp [intOf]; omega
    · obtain rfl : i = ops.length := by omega
      obtain ⟨⟨⟨bm1, a1, c1, E1, hG, hE1⟩, hWL, _, _, hLen, hbe⟩, hPk, ⟨⟨bmy1, ay1, cy1, hYl⟩, hPer⟩⟩ := HE.out
      have hE1l : E1.length ≤ 200 := by have := congrArg List.length hE1; simp at this; omega
      have HAl := Lib.hid (lall_ok p bm1 a1 c1 E1 wr hG (by omega))
      have HR0 : Hid (∀ ae ce Z C, Below wr.heap.size wr C → SlAt C 7 En.cs ae ce Z → (∀ e ∈ Z, EnOk C e) → RpS w p py b2 s2 L ae ce Z 0 C) := fun ae ce Z C hC h1 h2 => ⟨⟨bm1, a1, c1, E1, hG.after hC, hE1⟩, ⟨bmy1, ay1, cy1, [], hYl.after hC, by simp⟩, hPer.after hC, h1, h2, hbe.trans (hC.mono hbe.size)⟩
      have HWL := Lib.hid hWL
      have HPk := Lib.hid hPk
      have HE1 := Lib.hid hE1
      have hLl : L.length ≤ 120 := by omega
      clear hG hE1 hWL hLen hbe hPk hYl hPer HE
      go_wp2_with fail
      with_reducible refine HAl.out.mono ?_
      rintro e w7 hA
      obtain ⟨Bc, rfl, hb7, hLi⟩ := SeqAEnd.listed hA hE1l
      have HLi := Lib.hid hLi
      have HB7 := Lib.hid hb7
      clear hA hLi HAl hb7
      go_wp2_with fail
      with_reducible refine HLi.out.mono ?_
      rintro e w8 ⟨an, cn, ae, ce, zs, hzs, rfl, -, hse, hok, hb8, -⟩
      have hm : (idxP (E1.map En.p)).length = (zs.map Prod.snd).length := by rw [← hzs]; simp
      rw [hm]
      have hz2 := zs_p hzs
      obtain ⟨Z, hZ⟩ : ∃ Z, zs.map Prod.snd = Z := ⟨_, rfl⟩
      rw [hZ] at hse hz2 ⊢
      have HZ : Hid (Z.map En.p = L) := hz2.trans HE1.out
      have hlen : Z.length = L.length := by rw [← HZ.out]; simp
      have HS8 : Hid (RpS w p py b2 s2 L ae ce Z 0 w8) := HR0.out _ _ _ _ (HB7.out.trans (hb8.mono HB7.out.size)) hse fun e he => by
        rw [← hZ] at he
        obtain ⟨z, hz, rfl⟩ := List.mem_map.1 he
        exact hok z hz
      clear hm hz2 hse hok hb8 hzs hZ HB7 HLi HR0 HE1 hE1l
      obtain ⟨w0, hw0⟩ : ∃ w0, w0 = wr := ⟨_, rfl⟩
      subst hw0
      go_wp2_with fail
      go_loopw [13] (fun v wr => ∃ k : Nat, k ≤ Z.length ∧ v = .int .i64 k ∧ Hid (RpS w p py b2 s2 L ae ce Z k wr)) (fun v _ => Z.length - (intOf v).toNat)
      case atStart => exact ⟨0, by omega, rfl, HS8⟩
      case round =>
        obtain ⟨k, hk, rfl, HQ⟩ := hrel
        by_cases hkl : k < Z.length
        · obtain ⟨nb, no', rfl, hnb, hnc⟩ := HQ.out.sl.at7 (by omega)
          obtain ⟨hp1, hp2, hp3⟩ : p ≠ py ∧ b2 ≠ py ∧ s2 ≠ py := by have := HNe.out; omega
          have HPo : Hid (∀ A, RpS w p py b2 s2 L (some ⟨nb, no', none⟩) ce Z k A → Blk A wr.heap.size (En.at Z k).cs.toArray 27 → Calls Tryd.prog 20 #[.pointer (some ⟨py, 0, none⟩), .pointer (some ⟨b2, 0, none⟩), .int .i64 (En.at Z k).s.per, .int .i64 (En.at Z k).s.seq, .slice (some ⟨wr.heap.size, 0, none⟩) 1 1] A (OffEnd w p py b2 s2 L (some ⟨nb, no', none⟩) ce Z k)) := fun A hA hB => hA.post HR.out HWL.out (by omega) HPk.out HZ.out hkl hWpy hp1 hp2 hp3 _ hB
          have HG : Hid (∀ W, RpS w p py b2 s2 L (some ⟨nb, no', none⟩) ce Z k W ∨ RpS w p py b2 s2 L (some ⟨nb, no', none⟩) ce Z (k + 1) W → Cells7At W nb (no' + k * 7) (En.at Z k)) := fun W hW => by
            have hsl : SlAt W 7 En.cs (some ⟨nb, no', none⟩) ce Z := hW.elim RpS.sl RpS.sl
            obtain ⟨b', o', e', _, hc'⟩ := hsl.at7 (by omega)
            cases e'
            exact hc' k hkl
          obtain ⟨⟨⟨x0, x1, x2, x3, x4, x5⟩, xa, xc, xl⟩, hX⟩ : ∃ e, En.at Z k = e := ⟨_, rfl⟩
          rw [hX] at HPo HG
          dsimp only [En.cs, Cells7At] at HPo HG
          obtain ⟨q0, q1, q2, q3, q4, q5, q6⟩ := HG.out wr (.inl HQ.out)
          have bd : Below wr.heap.size wr wr.drew := (Below.refl _ _).drew
          have bA : ∀ o, Below wr.heap.size wr (wr.drew.alloc o) := fun o => bd.trans ((Below.refl _ _).alloc bd.size _)
          have bA2 : ∀ o, Below wr.heap.size wr (wr.alloc o).drew := fun o => ((Below.refl _ _).alloc (Nat.le_refl _) o).drew
          have r1 := fun o => HQ.out.after (bA o)
          have r2 := fun o => HQ.out.after (bA2 o)
          have R1 := Lib.hid r1
          have R2 := Lib.hid r2
          have RD := Lib.hid (HQ.out.after bd)
          have K1 : Hid (Blk (wr.drew.alloc (.cells #[.int .i64 x0, .int .i64 x1, .int .i64 x2, .int .i64 x3, .int .i64 x4, .int .i64 x5, .slice xa xl.length xc] 27)) wr.heap.size #[.int .i64 x0, .int .i64 x1, .int .i64 x2, .int .i64 x3, .int .i64 x4, .int .i64 x5, .slice xa xl.length xc] 27) := Blk.new _ _ _
          have K2 : Hid (Blk (wr.alloc (.cells #[.int .i64 x0, .int .i64 x1, .int .i64 x2, .int .i64 x3, .int .i64 x4, .int .i64 x5, .slice xa xl.length xc] 27)).drew wr.heap.size #[.int .i64 x0, .int .i64 x1, .int .i64 x2, .int .i64 x3, .int .i64 x4, .int .i64 x5, .slice xa xl.length xc] 27) := (Blk.new _ _ _).after ((Below.refl _ _).drew)
          have i1 : (0 : Int) ≤ (k : Int) := by omega
          have i2 : (k : Int) < (Z.length : Int) := by omega
          clear hnc hX bd bA bA2 r1 r2
          go_wp2_with fail
          go_region_held3 (fun W => W.cell? ⟨nb, no' + k * 7, none⟩ = some (.int .i64 x0) ∧ W.cell? ⟨nb, no' + k * 7 + 1, none⟩ = some (.int .i64 x1) ∧ W.cell? ⟨nb, no' + k * 7 + 2, none⟩ = some (.int .i64 x2) ∧ W.cell? ⟨nb, no' + k * 7 + 3, none⟩ = some (.int .i64 x3) ∧ W.cell? ⟨nb, no' + k * 7 + 4, none⟩ = some (.int .i64 x4) ∧ W.cell? ⟨nb, no' + k * 7 + 5, none⟩ = some (.int .i64 x5) ∧ W.cell? ⟨nb, no' + k * 7 + 6, none⟩ = some (.slice xa xl.length xc))
            (first | with_reducible exact HG.out _ (.inl RD.out) | with_reducible exact HG.out _ (.inl (R1.out _)) | with_reducible exact HG.out _ (.inl (R2.out _)) | with_reducible exact HG.out _ (.inr hS9))
            (first | (go_at_call 20; (with_reducible refine (HPo.out _ (by first | exact R1.out _ | exact R2.out _) (by first | exact K1.out | exact K2.out)).mono ?_); rintro e w9 ⟨rfl, hS9⟩))
          have HS9 := Lib.hid hS9
          clear hS9 HPo HG RD R1 R2 K1 K2
          obtain ⟨rv, rb, hrv, hrb, hrk⟩ := rev_vals HWL.out k
          have HRv := Lib.hid (HS9.out.rev HWL.out k (by omega) hrv hrb)
          clear hrv hrb
          go_wp2_with fail
          with_reducible refine HRv.out.mono ?_
          rintro e w10 ⟨rfl, hw10⟩
          obtain rfl : w9 = w10 := hw10.symm
          clear HRv
          cases rb
          · clear hrk
            go_wp2_with fail
            go_roundw
            case rel => exact ⟨k + 1, by omega, by go_num, HS9⟩
            case measure => simp [intOf]; omega
          · have d5 : decide (rv ≤ (k : Int)) = false := decide_eq_false (by have := hrk rfl; omega)
            clear hrk
            go_wp2_with fail
            go_roundw
            case rel => exact ⟨k + 1, by omega, by go_num, HS9⟩
            case measure => simp [intOf]; omega
        · obtain rfl : k = Z.length := by omega
          obtain ⟨w0', hw0'⟩ : ∃ w0', w0' = wr := ⟨_, rfl⟩
          subst hw0'
          obtain ⟨bmy1, ay1, cy1, Ey, hGy, hEy⟩ := HQ.out.y
          rw [hlen, List.take_length] at hEy
          have hEl : Ey.length ≤ 200 := by have := congrArg List.length hEy; simp at this; omega
          have HAl := Lib.hid (lall_ok py bmy1 ay1 cy1 Ey w0' hGy (by omega))
          have HEy := Lib.hid hEy
          clear hGy hEy
          go_wp2_with fail
          with_reducible refine HAl.out.mono ?_
          rintro e w10 hA
          obtain ⟨Bc', rfl, hb10, hLi'⟩ := SeqAEnd.listed hA hEl
          have HLi' := Lib.hid hLi'
          have HB10 := Lib.hid hb10
          clear hA hLi' HAl hb10
          go_wp2_with fail
          with_reducible refine HLi'.out.mono ?_
          rintro e w11 ⟨an2, cn2, ae2, ce2, zs2, hzs2, rfl, -, hse2, hok2, hb11, -⟩
          have hm2 : (idxP (Ey.map En.p)).length = Z.length := by rw [idxP_len, HEy.out, hlen]
          rw [hm2]
          have hz2 := zs_p hzs2
          obtain ⟨Z2, hZ2⟩ : ∃ Z2, zs2.map Prod.snd = Z2 := ⟨_, rfl⟩
          rw [hZ2] at hse2 hz2
          have HZ2 : Hid (Z2.map En.p = L) := hz2.trans HEy.out
          have hlen2 : Z2.length = Z.length := by have := congrArg List.length HZ2.out; simp at this; omega
          have hb10 := HB10.out.trans (hb11.mono HB10.out.size)
          have HT : Hid (RpS w p py b2 s2 L ae ce Z Z.length w11 ∧ SlAt w11 7 En.cs ae2 ce2 Z2 ∧ ∀ e ∈ Z2, EnOk w11 e) := ⟨HQ.out.after hb10, hse2, fun e he => by
            rw [← hZ2] at he
            obtain ⟨z, hz, rfl⟩ := List.mem_map.1 he
            exact hok2 z hz⟩
          clear hm2 hz2 hse2 hok2 hb11 hb10 hzs2 hZ2 HB10 HLi' HEy hEl HQ
          obtain ⟨sq, hsq⟩ : ∃ q, seqOf L = q := ⟨_, rfl⟩
          have HSx := Lib.hid (HT.out.1.seqs (by omega) (by omega) hsq).1
          have HSy : Hid (∀ C, Below w11.heap.size w11 C → Calls Tryd.prog 28 #[.pointer (some ⟨py, 0, none⟩)] C (fun e w' => e = .returned (.int .i64 sq) ∧ Below C.heap.size C w')) := fun C hC => ((HT.out.1.after hC).seqs (by omega) (by omega) hsq).2
          clear hsq
          go_wp2_with fail
          with_reducible refine HSx.out.mono ?_
          rintro e w12 ⟨rfl, hb12⟩
          have HSy2 := Lib.hid (HSy.out w12 hb12)
          have HB12 := Lib.hid hb12
          clear hb12 HSx HSy
          go_wp2_with fail
          with_reducible refine HSy2.out.mono ?_
          rintro e w13 ⟨rfl, hb13⟩
          have hb := HB12.out.trans (hb13.mono HB12.out.size)
          have HT3 : Hid (RpS w p py b2 s2 L ae ce Z Z.length w13 ∧ SlAt w13 7 En.cs ae2 ce2 Z2 ∧ ∀ e ∈ Z2, EnOk w13 e) := ⟨HT.out.1.after hb, HT.out.2.1.after hb, fun e he => (HT.out.2.2 e he).after hb⟩
          have hsq2 : (sq != sq) = false := by simp
          clear hb hb13 HB12 HT HSy2
          go_wp2_with fail
          clear hsq2
          go_loopw [21] (fun v wr => ∃ k : Nat, k ≤ Z.length ∧ v = .int .i64 k ∧ Hid (RpS w p py b2 s2 L ae ce Z Z.length wr ∧ SlAt wr 7 En.cs ae2 ce2 Z2 ∧ ∀ e ∈ Z2, EnOk wr e)) (fun v _ => Z.length - (intOf v).toNat)
          case atStart => exact ⟨0, by omega, rfl, HT3⟩
          case round =>
            obtain ⟨k, hk, rfl, HN⟩ := hrel
            by_cases hkl : k < Z.length
            · obtain ⟨nb, no', rfl, hnb, hnc⟩ := HN.out.1.sl.at7 (by omega)
              obtain ⟨mb, mo, rfl, hmb, hmc⟩ := HN.out.2.1.at7 (by omega)
              have g1 := hnc k hkl
              have g2 := hmc k (by omega)
              have o1 := at_okE' HN.out.1.ok hkl
              have o2 := at_okE' HN.out.2.2 (show k < Z2.length by omega)
              obtain ⟨e1, e2⟩ := same_at' HZ2.out HZ.out k hkl
              obtain ⟨⟨⟨x0, x1, x2, x3, x4, x5⟩, xa, xc, xl⟩, hX⟩ : ∃ E, En.at Z k = E := ⟨_, rfl⟩
              obtain ⟨⟨ys, ya, yc, yl⟩, hY⟩ : ∃ E, En.at Z2 k = E := ⟨_, rfl⟩
              rw [hX] at g1 o1 e1 e2
              rw [hY] at g2 o2 e1 e2
              dsimp only at e1 e2
              subst e1 e2
              clear hX hY hnc hmc
              have bd := (Below.refl wr.heap.size wr).drew
              have HG : Hid (∀ W, Below wr.heap.size wr W → (W.cell? ⟨nb, no' + k * 7, none⟩ = some (.int .i64 x0) ∧ W.cell? ⟨nb, no' + k * 7 + 1, none⟩ = some (.int .i64 x1) ∧ W.cell? ⟨nb, no' + k * 7 + 2, none⟩ = some (.int .i64 x2) ∧ W.cell? ⟨nb, no' + k * 7 + 3, none⟩ = some (.int .i64 x3) ∧ W.cell? ⟨nb, no' + k * 7 + 4, none⟩ = some (.int .i64 x4) ∧ W.cell? ⟨nb, no' + k * 7 + 5, none⟩ = some (.int .i64 x5) ∧ W.cell? ⟨nb, no' + k * 7 + 6, none⟩ = some (.slice xa yl.length xc)) ∧ (W.cell? ⟨mb, mo + k * 7, none⟩ = some (.int .i64 x0) ∧ W.cell? ⟨mb, mo + k * 7 + 1, none⟩ = some (.int .i64 x1) ∧ W.cell? ⟨mb, mo + k * 7 + 2, none⟩ = some (.int .i64 x2) ∧ W.cell? ⟨mb, mo + k * 7 + 3, none⟩ = some (.int .i64 x3) ∧ W.cell? ⟨mb, mo + k * 7 + 4, none⟩ = some (.int .i64 x4) ∧ W.cell? ⟨mb, mo + k * 7 + 5, none⟩ = some (.int .i64 x5) ∧ W.cell? ⟨mb, mo + k * 7 + 6, none⟩ = some (.slice ya yl.length yc))) := fun W hW => ⟨g1.after hW hnb, g2.after hW hmb⟩
              have hsy := same_yes ⟨x0, x1, x2, x3, x4, x5⟩ xa ya xc yc yl wr.drew (o1.after bd).ln (o2.after bd).ln (Nat.le_trans o1.few (by omega))
              dsimp only [entV] at hsy
              have HSY := Lib.hid hsy
              obtain ⟨rv, rb, hrv, hrb, -⟩ := rev_vals HWL.out k
              have HRx := Lib.hid (HN.out.1.rev HWL.out k (by omega) hrv hrb)
              have HRy := Lib.hid (HN.out.1.revY (by omega) HWL.out k (by omega) hrv hrb)
              have k1 : (0 : Int) ≤ (k : Int) := by omega
              have k2 : (k : Int) < (Z.length : Int) := by omega
              have e3 : (rv != rv) = false := by simp
              have e4 : (rb != rb) = false := by simp
              clear hrv hrb g1 g2 o1 o2 hsy
              go_wp2_with fail
              with_reducible refine HRx.out.mono ?_
              rintro e w14 ⟨rfl, hw14⟩
              obtain rfl : wr = w14 := hw14.symm
              go_wp2_with fail
              with_reducible refine HRy.out.mono ?_
              rintro e w14 ⟨rfl, hw14⟩
              obtain rfl : wr = w14 := hw14.symm
              clear HRx HRy
              go_wp2_with fail
              go_region_held3 (fun W => (W.cell? ⟨nb, no' + k * 7, none⟩ = some (.int .i64 x0) ∧ W.cell? ⟨nb, no' + k * 7 + 1, none⟩ = some (.int .i64 x1) ∧ W.cell? ⟨nb, no' + k * 7 + 2, none⟩ = some (.int .i64 x2) ∧ W.cell? ⟨nb, no' + k * 7 + 3, none⟩ = some (.int .i64 x3) ∧ W.cell? ⟨nb, no' + k * 7 + 4, none⟩ = some (.int .i64 x4) ∧ W.cell? ⟨nb, no' + k * 7 + 5, none⟩ = some (.int .i64 x5) ∧ W.cell? ⟨nb, no' + k * 7 + 6, none⟩ = some (.slice xa yl.length xc)) ∧ (W.cell? ⟨mb, mo + k * 7, none⟩ = some (.int .i64 x0) ∧ W.cell? ⟨mb, mo + k * 7 + 1, none⟩ = some (.int .i64 x1) ∧ W.cell? ⟨mb, mo + k * 7 + 2, none⟩ = some (.int .i64 x2) ∧ W.cell? ⟨mb, mo + k * 7 + 3, none⟩ = some (.int .i64 x3) ∧ W.cell? ⟨mb, mo + k * 7 + 4, none⟩ = some (.int .i64 x4) ∧ W.cell? ⟨mb, mo + k * 7 + 5, none⟩ = some (.int .i64 x5) ∧ W.cell? ⟨mb, mo + k * 7 + 6, none⟩ = some (.slice ya yl.length yc)))
                (first | with_reducible exact HG.out wr.drew (Below.refl wr.heap.size wr).drew | with_reducible exact HG.out _ hB9 | go_keep)
                (first | (go_at_call 26; (with_reducible refine HSY.out.mono ?_); rintro e w9 ⟨rfl, hb9⟩; have hB9 : Below wr.heap.size wr w9 := (Below.refl wr.heap.size wr).drew.trans hb9))
              have HN9 : Hid (RpS w p py b2 s2 L (some ⟨nb, no', none⟩) ce Z Z.length w9 ∧ SlAt w9 7 En.cs (some ⟨mb, mo, none⟩) ce2 Z2 ∧ ∀ e ∈ Z2, EnOk w9 e) := ⟨HN.out.1.after hB9, HN.out.2.1.after hB9, fun e he => (HN.out.2.2 e he).after hB9⟩
              clear hb9 hB9 HSY HG
              go_wp2_with fail
              go_roundw
              case rel => exact ⟨k + 1, by omega, by go_num, HN9⟩
              case measure => simp [intOf]; omega
            · obtain rfl : k = Z.length := by omega
              have HAw := Lib.hid (awake15 wr (HR.out.after HN.out.1.be))
              go_wp2_with fail
              with_reducible refine HAw.out.mono ?_
              rintro e w15 ⟨rfl, hb15⟩
              have HBz := Lib.hid (HN.out.1.be.trans (hb15.mono HN.out.1.be.size))
              clear hb15
              go_wp2_with fail
              go_ret
              exact ⟨rfl, HBz.out⟩

end Go.Proofs.YtpinhomalmknjaaDoor
/- The statement LedgerReplays's arguments. -/
namespace Go.Proofs.YtpinhomalmknjaaDoor
open Go.ChangeShapes Go.WideShapes Go.ChangeAt Go.RowKit
set_option linter.unusedVariables false
set_option maxRecDepth 100000

theorem open_LedgerReplays {H : Type} (enc : TypeId × Value → H) (base : Nat) (W : World) (hR : RulesAt W) (v0 : Value) (d0 : DataW H) (p0 : List MemPlace) (h0 : DataW.Trod enc Tryd.prog W 0 (fun _ => true) true 22 v0 d0 p0) (ok0 : Value.okWide Tryd.prog W .any base 22 v0) :
    Calls Tryd.prog 6 #[v0] W fun e W' => e = .returned (.bool true) ∧ Below W.heap.size W W' := by
  obtain ⟨a, len, cap, rfl⟩ := okWide_slice Tryd.underlying22 ok0
  have hl := arg_leaves (d := 2) (ls := [22]) (by kernel_rfl) h0
  obtain ⟨c0, cs0, e0, h1, hl⟩ := hl.cons
  obtain rfl := hl.nil
  simp only [Value.cells, List.cons.injEq, and_true] at e0
  subst e0
  obtain ⟨a', cap', ops, e1, q1, q2, q3, q4⟩ := open_ops_leaf h1
  rw [e1]
  exact walk_LedgerReplays W hR a' cap' ops q1 (by omega)

end Go.Proofs.YtpinhomalmknjaaDoor
