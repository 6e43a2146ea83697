/- Books that are written off: the plain law; calls done one behind the other. -/
import Derived.Test.YtpinhomalmknjaaDoorQd
import Derived.Test.YtpinhomalmknjaaDoorEntZ
namespace Go.Proofs.YtpinhomalmknjaaDoor
open Go.RowKit Go.Sort Go.Shelf
set_option linter.unusedVariables false
set_option linter.unusedSimpArgs false
set_option maxRecDepth 100000

theorem revI_take {L : List EnP} {j : Nat} {no : Int} (h : ∀ i e, i < j → L[i]? = some e → ¬ (e.s.ref = no ∧ 0 ≤ no)) : revI (L.take j) no = none := by
  unfold revI
  rw [List.findIdx?_eq_none_iff]
  intro e he
  obtain ⟨i, hi, rfl⟩ := List.getElem_of_mem he
  rw [List.length_take] at hi
  have := h i (L[i]'(by omega)) (by omega) (List.getElem?_eq_getElem (by omega))
  rw [List.getElem_take]
  simpa using this
theorem WL.wrong_take {L : List EnP} (h : WL L) {j : Nat} {e : EnP} (he : L[j]? = some e) : wrongE (L.take j) e = 0 := by
  have hc := h.ck e (List.mem_of_getElem? he)
  by_cases hr : e.s.ref = -1
  · exact wrongE_new hc hr
  · obtain ⟨old, h1, h2, h3, h4⟩ := h.ref j e he hr
    have h5 := (h.refs he hr).1
    rw [wrongE_in hc hr (old := old) (by rw [List.getElem?_take_of_lt h2]; exact h1)]
    have hv : revI (L.take j) e.s.ref = none := revI_take fun i f hi hf hh => by
      have := h.one i j f e hf he hh.1 (by rw [hh.1]; exact hr)
      omega
    rw [hv, if_neg (by simp), if_neg (by simpa using h3), if_pos h4]
theorem WL.takeW {L : List EnP} (h : WL L) (j : Nat) : WL (L.take j) := by
  refine ⟨fun e he => h.ck e (List.mem_of_mem_take he), fun k e hk hr => ?_, fun i k e f hi hk he hr => ?_, h.seq.sublist (List.take_sublist j L)⟩
  · have hkj : k < j := by have := (List.getElem?_eq_some_iff.1 hk).1; rw [List.length_take] at this; omega
    rw [List.getElem?_take_of_lt hkj] at hk
    obtain ⟨old, h1, h2, h3⟩ := h.ref k e hk hr
    exact ⟨old, by rw [List.getElem?_take_of_lt (by omega)]; exact h1, h2, h3⟩
  · have hij : i < j := by have := (List.getElem?_eq_some_iff.1 hi).1; rw [List.length_take] at this; omega
    have hkj : k < j := by have := (List.getElem?_eq_some_iff.1 hk).1; rw [List.length_take] at this; omega
    rw [List.getElem?_take_of_lt hij] at hi
    rw [List.getElem?_take_of_lt hkj] at hk
    exact h.one i k e f hi hk he hr
theorem seqOf_take {L : List EnP} (h : WL L) {j : Nat} {e : EnP} (he : L[j]? = some e) : seqOf (L.take j) ≤ e.s.seq := by
  unfold seqOf
  have h0 := (check_nums (h.ck e (List.mem_of_getElem? he))).1
  cases hg : (L.take j).getLast? with
  | none => exact h0
  | some f =>
    obtain ⟨hj, hje⟩ := List.getElem?_eq_some_iff.1 he
    rw [List.getLast?_eq_getElem?] at hg
    have hlt := (List.getElem?_eq_some_iff.1 hg).1
    rw [List.length_take] at hlt hg
    rw [List.getElem?_take_of_lt (by omega)] at hg
    obtain ⟨hi, hie⟩ := List.getElem?_eq_some_iff.1 hg
    have := List.pairwise_iff_getElem.1 h.seq _ _ hi hj (by omega)
    rw [hie, hje] at this
    exact this
theorem stamp_self (e : EnP) : stamp e.s.per e.s.seq e = e := rfl
/-- What is written off is put. -/
theorem WL.off {L : List EnP} (h : WL L) (hp : PerOk L) {j : Nat} {e : EnP} (he : L[j]? = some e) : postE (decide (0 ≤ e.s.per ∧ e.s.per ≤ lastP 30)) (decide (e.s.per < 0)) e.s.per e.s.seq (L.take j) [e] = 0 ∧ postL (decide (0 ≤ e.s.per ∧ e.s.per ≤ lastP 30)) (decide (e.s.per < 0)) e.s.per e.s.seq (L.take j) [e] = L.take (j + 1) := by
  have hm := List.mem_of_getElem? he
  obtain ⟨p0, p1⟩ := hp e hm
  obtain ⟨s0, _⟩ := check_nums (h.ck e hm)
  have hE : postE (decide (0 ≤ e.s.per ∧ e.s.per ≤ lastP 30)) (decide (e.s.per < 0)) e.s.per e.s.seq (L.take j) [e] = 0 := by
    rw [decide_eq_true (show 0 ≤ e.s.per ∧ e.s.per ≤ lastP 30 from ⟨p0, p1⟩), decide_eq_false (show ¬ e.s.per < 0 by omega)]
    unfold postE
    have hq := seqOf_take h he
    rw [if_neg (by decide), if_neg (by decide), if_neg (by omega)]
    unfold postK
    rw [if_pos (h.wrong_take he)]
    rfl
  refine ⟨hE, ?_⟩
  unfold postL
  rw [if_pos hE]
  obtain ⟨hj, hje⟩ := List.getElem?_eq_some_iff.1 he
  rw [List.take_succ_eq_append_getElem hj, hje]
  rfl
theorem BkS.more {W : World} {p b s i m m' : Nat} {L : List EnP} {A : World} (h : BkS W p b s i m L A) (hm : m ≤ m') : BkS W p b s i m' L A := ⟨h.ex, h.wl, h.per, h.pb, Nat.le_trans h.len hm, h.be⟩
theorem Turn.drop3 {p b q : Nat} {w0 w w' : World} (h0 : Below w0.heap.size w0 w) (t : Turn [p, b, q] w w') (hq : w0.heap.size ≤ q) : Turn [p, b] w0 w' :=
  ⟨t.os.trans h0.os, t.tape.trans h0.tape, t.output.trans h0.output, Nat.le_trans h0.size t.size, fun k hk hn => (t.block k (by have := h0.size; omega) (by simp at hn ⊢; omega)).trans (h0.block k hk)⟩
theorem RqOk.new (w : World) : RqOk (w.alloc (.cells #[.slice none 0 0] 40)) w.heap.size none 0 [] :=
  ⟨⟨Blk.new _ _ _, ⟨fun h => absurd h (by simp), Nat.le_refl _, Nat.zero_le _, .inl ⟨rfl, rfl, rfl⟩⟩, fun e he => by simp at he⟩, fun _ => ⟨rfl, rfl⟩⟩
/-- The books of a loop of calls, and of the others'. -/
structure LpS (W : World) (p b s i : Nat) (wr : World) : Prop where
  ex : ∃ L, BkS W p b s i (6 * i) L wr ∧ PerOk L
structure YyS (py b2 s2 : Nat) (wr : World) : Prop where
  y : ∃ bm a cap, LgAt wr py bm a cap []
  per : Per wr b2 s2 30 0
theorem YyS.after {py b2 s2 : Nat} {A C : World} (h : YyS py b2 s2 A) (hb : Below A.heap.size A C) : YyS py b2 s2 C := by
  obtain ⟨⟨bm, a, cap, h1⟩, h2⟩ := h
  exact ⟨⟨bm, a, cap, h1.after hb⟩, h2.after hb⟩
theorem YyS.turn {py b2 s2 : Nat} {A C : World} {bs : List Nat} (h : YyS py b2 s2 A) (t : Turn bs A C) (hb : ∀ q ∈ bs, Bx A q) (h1 : py ∉ bs) (h2 : b2 ∉ bs) (h3 : s2 ∉ bs) : YyS py b2 s2 C := by
  obtain ⟨⟨bm, a, cap, k1⟩, k2⟩ := h
  exact ⟨⟨bm, a, cap, k1.turn2 t hb h1⟩, k2.turn t h2 h3⟩
theorem BkS.bxs {W : World} {p b s i m : Nat} {L : List EnP} {A : World} (h : BkS W p b s i m L A) : ∀ q ∈ [p, b], Bx A q := fun q hq => by
  obtain ⟨⟨bm, a, cap, E, h1, _⟩, _, _, h4, _⟩ := h
  rcases List.mem_cons.1 hq with rfl | hq
  · exact .inl h1.box
  · rw [List.mem_singleton.1 hq]; exact .inr h4

end Go.Proofs.YtpinhomalmknjaaDoor
/- Entries that are put in two parts: the plain law; two books side by side. -/
namespace Go.Proofs.YtpinhomalmknjaaDoor
open Go.RowKit Go.Sort Go.Shelf
set_option linter.unusedVariables false
set_option linter.unusedSimpArgs false
set_option maxRecDepth 100000

theorem postK_append {per seq : Int} : ∀ (A B L : List EnP), postK per seq L (A ++ B) = if (postK per seq L A).1 = 0 then postK per seq (L ++ A.map (stamp per seq)) B else postK per seq L A
  | [], B, L => by simp [postK]
  | x :: A, B, L => by
    show (if wrongE L x = 0 then postK per seq (L ++ [stamp per seq x]) (A ++ B) else (wrongE L x, L)) = _
    by_cases h : wrongE L x = 0
    · rw [if_pos h, postK_append A B]
      have : postK per seq L (x :: A) = postK per seq (L ++ [stamp per seq x]) A := by
        show (if wrongE L x = 0 then postK per seq (L ++ [stamp per seq x]) A else (wrongE L x, L)) = _
        rw [if_pos h]
      rw [this]
      simp
    · have : postK per seq L (x :: A) = (wrongE L x, L) := by
        show (if wrongE L x = 0 then postK per seq (L ++ [stamp per seq x]) A else (wrongE L x, L)) = _
        rw [if_neg h]
      rw [if_neg h, this, if_neg h]
/-- Two parts are as the whole. -/
theorem post_parts {there lk : Bool} {per seq : Int} {L A B : List EnP} :
    postE there lk per seq L (A ++ B) = (if postE there lk per seq L A = 0 then postE there lk per seq (postL there lk per seq L A) B else postE there lk per seq L A) ∧
    (postE there lk per seq L (A ++ B) = 0 → postE there lk per seq L A = 0 ∧ postL there lk per seq (postL there lk per seq L A) B = postL there lk per seq L (A ++ B)) := by
  cases there with
  | false => exact ⟨by simp [postE], fun h => by simp [postE] at h⟩
  | true =>
    cases lk with
    | true => exact ⟨by simp [postE], fun h => by simp [postE] at h⟩
    | false =>
      by_cases hs : seq < 0 ∨ seq < seqOf L
      · have e : ∀ X, postE true false per seq L X = 24 := fun X => by unfold postE; rw [if_neg (by decide), if_neg (by decide), if_pos hs]
        exact ⟨by rw [e, e]; rfl, fun h => by rw [e] at h; cases h⟩
      · have e : ∀ X, postE true false per seq L X = (postK per seq L X).1 := fun X => by unfold postE; rw [if_neg (by decide), if_neg (by decide), if_neg hs]
        have h1 : postE true false per seq L (A ++ B) = (if postE true false per seq L A = 0 then postE true false per seq (postL true false per seq L A) B else postE true false per seq L A) := by
          rw [e, e, postK_append]
          by_cases h0 : (postK per seq L A).1 = 0
          · have hL : postL true false per seq L A = L ++ A.map (stamp per seq) := by unfold postL; rw [e, if_pos h0]
            have hq : seqOf (L ++ A.map (stamp per seq)) ≤ seq := seqOf_pre (by omega)
            rw [if_pos h0, if_pos h0, hL]
            unfold postE
            rw [if_neg (by decide), if_neg (by decide), if_neg (by omega)]
          · rw [if_neg h0, if_neg h0]
        refine ⟨h1, fun h => ?_⟩
        by_cases h0 : postE true false per seq L A = 0
        · refine ⟨h0, ?_⟩
          rw [h1, if_pos h0] at h
          have hL : postL true false per seq L A = L ++ A.map (stamp per seq) := by unfold postL; rw [if_pos h0]
          have hL2 : postL true false per seq (postL true false per seq L A) B = postL true false per seq L A ++ B.map (stamp per seq) := by unfold postL at h ⊢; rw [if_pos h]
          have hL3 : postL true false per seq L (A ++ B) = L ++ (A ++ B).map (stamp per seq) := by
            have : postE true false per seq L (A ++ B) = 0 := by rw [h1, if_pos h0]; exact h
            unfold postL
            rw [if_pos this]
          rw [hL2, hL, hL3, List.map_append, List.append_assoc]
        · rw [h1, if_neg h0] at h
          exact absurd h h0
theorem BkS.other {W : World} {p b s i m : Nat} {L : List EnP} {A C : World} {q : Nat} (h : BkS W p b s i m L A) (t : Turn [q] A C) (hQ : Bx A q) (hW : W.heap.size ≤ q) (h1 : q ≠ p) (h2 : q ≠ b) (h3 : q ≠ s) : BkS W p b s i m L C := by
  obtain ⟨⟨bm, a, cap, E, k1, k2⟩, k3, ⟨l, k4, k5, k6⟩, k7, k10, k11⟩ := h
  have hb : ∀ x ∈ [q], Bx A x := fun x hx => by rw [List.mem_singleton.1 hx]; exact hQ
  exact ⟨⟨bm, a, cap, E, k1.turn2 t hb (by simpa using h1.symm), k2⟩, k3, ⟨l, k4.turn t (by simpa using h2.symm) (by simpa using h3.symm), k5, k6⟩, k7.turn t (by simpa using h2.symm), k10, k11.trans (t.below k11.size fun x hx => by rw [List.mem_singleton.1 hx]; exact hW)⟩
theorem BkS.bx {W : World} {p b s i m : Nat} {L : List EnP} {A : World} (h : BkS W p b s i m L A) : Bx A p := h.bxs p (by simp)
/-- Part of a slice of entries. -/
theorem EnsAt.takeR {w : World} {a : Option Addr} {X : List En} (h : EnsAt w a X) (n : Nat) : EnsAt w a (X.take n) := by
  refine ⟨?_, fun i hi => ?_⟩
  · intro h0
    have h0' : 0 < X.length := by rw [List.length_take] at h0; omega
    obtain ⟨b, o, e, hc⟩ := h.1 h0'
    exact ⟨b, o, e, fun i hi j v hv => hc i (by rw [List.length_take] at hi; omega) j v (by
      rw [List.length_take] at hi
      unfold En.row En.at at hv ⊢
      rw [List.getD_eq_getElem?_getD, List.getElem?_take_of_lt (by omega)] at hv
      rw [List.getD_eq_getElem?_getD]; exact hv)⟩
  · rw [List.length_take] at hi
    have := h.2 i (by omega)
    unfold En.at at this ⊢
    rw [List.getD_eq_getElem?_getD] at this
    rw [List.getD_eq_getElem?_getD, List.getElem?_take_of_lt (by omega)]
    exact this
theorem EnsAt.dropR {w : World} {b o : Nat} {X : List En} (h : EnsAt w (some ⟨b, o, none⟩) X) (n : Nat) : EnsAt w (some ⟨b, o + n * 7, none⟩) (X.drop n) := by
  refine ⟨RecsAt.dropR (enc := En.cs) h.1 n, fun i hi => ?_⟩
  rw [List.length_drop] at hi
  have := h.2 (n + i) (by omega)
  unfold En.at at this ⊢
  rw [List.getD_eq_getElem?_getD] at this
  rw [List.getD_eq_getElem?_getD, List.getElem?_drop]
  exact this
theorem EnsAt.none {w : World} (a : Option Addr) : EnsAt w a [] := ⟨fun h => absurd h (by simp), fun i hi => absurd hi (by simp)⟩

theorem BkS.lens {W : World} {p b s i m : Nat} {L : List EnP} {A : World} (h : BkS W p b s i m L A) : Calls Tryd.prog 27 #[.pointer (some ⟨p, 0, none⟩)] A fun e w' => e = .returned (.int .i64 (L.length : Int)) ∧ w' = A := by
  obtain ⟨bm, a, cap, E, h1, h2⟩ := h.ex
  have := llen_ok p bm a cap E A h1
  rwa [show E.length = L.length by rw [← h2]; simp] at this
/-- The two parts of a slice of entries. -/
theorem slice_parts (pa : Option Addr) (pcap n : Nat) (X : List En) (hn : n ≤ X.length) (hle : X.length ≤ pcap) (hnil : pa = none → X.length = 0 ∧ pcap = 0) :
    ∃ pa1 c1 pa2 c2, (∀ W, (Instr.sliceAt 42 (.slice pa X.length pcap) none (some (.int .i64 (n : Int))) none).run Tryd.prog W = .ok (.slice pa1 n c1) W) ∧
      (∀ W, (Instr.sliceAt 42 (.slice pa X.length pcap) (some (.int .i64 (n : Int))) none none).run Tryd.prog W = .ok (.slice pa2 (X.length - n) c2) W) ∧
      ∀ V, EnsAt V pa X → EnsAt V pa1 (X.take n) ∧ EnsAt V pa2 (X.drop n) := by
  have hT : Tryd.prog.underlying 42 = some (.slice (Tryd.prog.elem 42)) := by kernel_rfl
  have hs : ∀ W, (sizeOf (Tryd.prog.elem 42)).run Tryd.prog W = .ok 7 W := fun W => by kernel_rfl
  refine ⟨if pcap = 0 then pa else pa.map (·.add (0 * 7)), pcap, if pcap = n then pa else pa.map (·.add (n * 7)), pcap - n, fun W => ?_, fun W => ?_, fun V hV => ⟨?_, ?_⟩⟩
  · rw [run_sliceAt_slice W 42 _ _ _ _ hT, run_slice_h W 42 pa _ pcap hT .i64 (n : Int) (by omega) (by omega), hs]
    simp [Result.andThen, sliced]
  · rw [run_sliceAt_slice W 42 _ _ _ _ hT, run_slice_l W 42 pa _ pcap hT .i64 (n : Int) (by omega) (by omega), hs]
    simp [Result.andThen, sliced]
  · by_cases h0 : X.length = 0
    · obtain rfl : X = [] := List.length_eq_zero_iff.1 h0
      simpa using EnsAt.none _
    · obtain ⟨b, o, rfl, _⟩ := hV.1 (by omega)
      rw [if_neg (by omega)]
      have := hV.takeR n
      simpa [Addr.add] using this
  · by_cases h0 : X.length = n
    · have : X.drop n = [] := List.drop_eq_nil_of_le (by omega)
      rw [this]
      exact EnsAt.none _
    · obtain ⟨b, o, rfl, _⟩ := hV.1 (by omega)
      rw [if_neg (by omega)]
      have hadd : (⟨b, o, none⟩ : Addr).add (n * 7) = ⟨b, o + n * 7, none⟩ := by unfold Addr.add; split <;> simp_all
      show EnsAt V (some ((⟨b, o, none⟩ : Addr).add (n * 7))) (X.drop n)
      rw [hadd]
      exact hV.dropR n

def AllQ (A : World) (L : List EnP) (e : Ending) (w' : World) : Prop := ∃ Bc, e = .returned (.func (.func 50) #[] #[.pointer (some ⟨Bc, 0, none⟩)]) ∧ Below A.heap.size A w' ∧
    Calls Tryd.prog 23 #[.func (.func 50) #[] #[.pointer (some ⟨Bc, 0, none⟩)]] w' (ListEnd w' (idxP L))
theorem BkS.all {W : World} {p b s i m : Nat} {L : List EnP} {A : World} (h : BkS W p b s i m L A) (hm : m ≤ 200) : Calls Tryd.prog 24 #[.pointer (some ⟨p, 0, none⟩)] A (AllQ A L) := by
  obtain ⟨bm, a, cap, E, h1, h2⟩ := h.ex
  have hl : E.length ≤ 200 := by have h3 := congrArg List.length h2; have := h.len; rw [List.length_map] at h3; omega
  refine (lall_ok p bm a cap E A h1 (by omega)).mono ?_
  rintro e w' hA
  obtain ⟨Bc, rfl, hb, hLi⟩ := SeqAEnd.listed hA hl
  rw [h2] at hLi
  exact ⟨Bc, rfl, hb, hLi⟩
theorem same_at' {Z Z2 : List En} {L : List EnP} (h : Z2.map En.p = L) (hL : Z.map En.p = L) : ∀ k, k < Z.length → (En.at Z2 k).s = (En.at Z k).s ∧ (En.at Z2 k).ls = (En.at Z k).ls := fun k hk => by
  have h1 : (Z2.map En.p)[k]? = (Z.map En.p)[k]? := by rw [h, hL]
  have hk2 : k < Z2.length := by have := congrArg List.length (h.trans hL.symm); simp at this; omega
  rw [at_get hk, at_get hk2] at h1
  have := Option.some.inj h1
  exact ⟨congrArg EnP.s this, congrArg EnP.ls this⟩
theorem at_okE' {w : World} {Z : List En} (h : ∀ e ∈ Z, EnOk w e) {k : Nat} (hk : k < Z.length) : EnOk w (En.at Z k) := h _ (at_memE hk)
/-- Two lists of entries. -/
structure TwoL (W : World) (a1 : Option Addr) (c1 : Nat) (Z1 : List En) (a2 : Option Addr) (c2 : Nat) (Z2 : List En) (wr : World) : Prop where
  s1 : SlAt wr 7 En.cs a1 c1 Z1
  o1 : ∀ e ∈ Z1, EnOk wr e
  s2 : SlAt wr 7 En.cs a2 c2 Z2
  o2 : ∀ e ∈ Z2, EnOk wr e
  be : Below W.heap.size W wr
theorem TwoL.after {W : World} {a1 : Option Addr} {c1 : Nat} {Z1 : List En} {a2 : Option Addr} {c2 : Nat} {Z2 : List En} {A C : World} (h : TwoL W a1 c1 Z1 a2 c2 Z2 A) (hb : Below A.heap.size A C) : TwoL W a1 c1 Z1 a2 c2 Z2 C :=
  ⟨h.s1.after hb, fun e he => (h.o1 e he).after hb, h.s2.after hb, fun e he => (h.o2 e he).after hb, h.be.trans (hb.mono h.be.size)⟩

end Go.Proofs.YtpinhomalmknjaaDoor
/- The statement LedgerParts: its walk. -/
namespace Go.Proofs.YtpinhomalmknjaaDoor
open Go.RowKit Go.Sort Go.Shelf
set_option linter.unusedVariables false
set_option linter.unusedSimpArgs false
set_option maxRecDepth 100000

set_option maxHeartbeats 200000000 in
theorem walk_LedgerParts (w : World) (hR : RulesAt w) (a : Option Addr) (cap : Nat) (ops : List Opc) (h : OpsIn w a ops) (hl : ops.length ≤ maxLen) (po : Opc) (hpo : OpIn w po) (at' : Int) :
    Calls Tryd.prog 5 #[.slice a ops.length cap, .agg #[.int .i64 po.p, .int .i64 po.s, .bool po.k, .slice po.a po.es.length po.cap], .int .i64 at'] w (TrueEnd w) := by
  obtain ⟨pp, ps, pk, pa, pcap, X⟩ := po
  dsimp only
  have hw0 : 0 < w.heap.size := World.block_lt_of_cell? w _ hR.r0
  obtain ⟨W, hwa⟩ : ∃ wa, w.alloc (.cells #[.int .i64 pp, .int .i64 ps, .bool pk, .slice pa X.length pcap] 44) = wa := ⟨_, rfl⟩
  have ba : Below w.heap.size w W := by rw [← hwa]; exact (Below.refl _ _).alloc (Nat.le_refl _) _
  have ka : Blk W w.heap.size #[.int .i64 pp, .int .i64 ps, .bool pk, .slice pa X.length pcap] 44 := by rw [← hwa]; exact Blk.new _ _ _
  have BA := Lib.hid ba
  have HB := Lib.hid ka
  have HR := Lib.hid (hR.after ba)
  have H := Lib.hid (h.after ba)
  have hO0 := Lib.hid (hpo.after ba)
  have HFw := Lib.hid (few15 a cap ops W (h.after ba) hl)
  have hl' : ops.length ≤ 9223372036854775807 := by unfold maxLen at hl; omega
  have HWa := Lib.hid hwa
  clear hwa ba ka hR h hl hpo
  go_enter Tryd.func5, Tryd.ntmps5
  go_wp2_with fail
  rw [HWa.out]
  with_reducible refine HFw.out.mono ?_
  rintro e w1 ⟨bb, rfl, hfew, hb1⟩
  have HFew := Lib.hid hfew
  have HB1 := Lib.hid hb1
  clear hfew hb1 HFw HWa
  cases bb
  · go_wp2_with fail
    with_reducible refine (awake15 w1 (HR.out.after HB1.out)).mono ?_
    rintro e w9 ⟨rfl, hb9⟩
    go_wp2_with fail
    go_ret
    exact ⟨rfl, (BA.out.trans (HB1.out.mono BA.out.size)).trans (hb9.mono (BA.out.trans (HB1.out.mono BA.out.size)).size)⟩
  obtain ⟨hn20, hfew⟩ := HFew.out rfl
  have HFew2 := Lib.hid hfew
  clear hfew HFew
  have hk1 := HB.out.after HB1.out
  have e0 : w1.cell? ⟨w.heap.size, 0, none⟩ = some (.int .i64 pp) := hk1.cell 0 rfl
  have e1 : w1.cell? ⟨w.heap.size, 1, none⟩ = some (.int .i64 ps) := hk1.cell 1 rfl
  have e2 : w1.cell? ⟨w.heap.size, 2, none⟩ = some (.bool pk) := hk1.cell 2 rfl
  have e3 : w1.cell? ⟨w.heap.size, 3, none⟩ = some (.slice pa X.length pcap) := hk1.cell 3 rfl
  obtain ⟨wb, hwb⟩ : ∃ wb, w1.alloc (.cells #[.int .i64 pp, .int .i64 ps, .bool pk, .slice pa X.length pcap] 44) = wb := ⟨_, rfl⟩
  have bb : Below w1.heap.size w1 wb := by rw [← hwb]; exact (Below.refl _ _).alloc (Nat.le_refl _) _
  have kb : Blk wb w1.heap.size #[.int .i64 pp, .int .i64 ps, .bool pk, .slice pa X.length pcap] 44 := by rw [← hwb]; exact Blk.new _ _ _
  have hbW : Below W.heap.size W wb := HB1.out.trans (bb.mono HB1.out.size)
  have HOps : OpsIn wb (some ⟨w1.heap.size, 0, none⟩) [⟨pp, ps, pk, pa, pcap, X⟩] := by
    refine ⟨fun _ => ⟨w1.heap.size, 0, rfl, fun i hi j v hv => ?_⟩, fun i hi => ?_⟩
    · obtain rfl : i = 0 := by simpa using hi
      have hv' : (Opc.cs ⟨pp, ps, pk, pa, pcap, X⟩)[j]? = some v := hv
      have := kb.cell j (v := v) (by simpa [Opc.cs] using hv')
      simpa using this
    · obtain rfl : i = 0 := by simpa using hi
      exact hO0.out.after hbW
  have HF : Hid (Calls Tryd.prog 9 #[.slice (some ⟨w1.heap.size, 0, none⟩) 1 1] wb (FewEnd wb [⟨pp, ps, pk, pa, pcap, X⟩])) := Lib.hid (few15 (some ⟨w1.heap.size, 0, none⟩) 1 [⟨pp, ps, pk, pa, pcap, X⟩] wb HOps (by unfold maxLen; simp))
  have HBb := Lib.hid hbW
  have HWB := Lib.hid hwb
  clear kb bb hbW HOps hwb hk1
  go_wp2_with fail
  clear e0 e1 e2 e3
  rw [HWB.out]
  with_reducible refine HF.out.mono ?_
  rintro e w2 ⟨b, rfl, hfw, hb2⟩
  have HB2 := Lib.hid (HBb.out.trans (hb2.mono HBb.out.size))
  have hfo := Lib.hid hfw
  clear hb2 HF HWB HBb HB1 hfw
  cases b
  · go_wp2_with fail
    with_reducible refine (awake15 w2 (HR.out.after HB2.out)).mono ?_
    rintro e w9 ⟨rfl, hb9⟩
    go_wp2_with fail
    go_ret
    exact ⟨rfl, (BA.out.trans (HB2.out.mono BA.out.size)).trans (hb9.mono (BA.out.trans (HB2.out.mono BA.out.size)).size)⟩
  have hF : Hid (FewO ⟨pp, ps, pk, pa, pcap, X⟩) := (hfo.out rfl).2 _ (by simp)
  clear hfo
  by_cases ha0 : at' < 0
  · have d0 : decide (at' < 0) = true := decide_eq_true ha0
    go_wp2_with fail
    with_reducible refine (awake15 w2 (HR.out.after HB2.out)).mono ?_
    rintro e w9 ⟨rfl, hb9⟩
    go_wp2_with fail
    go_ret
    exact ⟨rfl, (BA.out.trans (HB2.out.mono BA.out.size)).trans (hb9.mono (BA.out.trans (HB2.out.mono BA.out.size)).size)⟩
  have d0 : decide (at' < 0) = false := decide_eq_false ha0
  have hk2 := HB.out.after HB2.out
  have e3 : w2.cell? ⟨w.heap.size, 3, none⟩ = some (.slice pa X.length pcap) := hk2.cell 3 rfl
  clear hk2
  obtain ⟨n, hn⟩ : ∃ n : Nat, at' = (n : Int) := ⟨at'.toNat, by omega⟩
  subst hn
  by_cases ha1 : X.length < n
  · have d1 : decide ((X.length : Int) < (n : Int)) = true := decide_eq_true (by omega)
    go_wp2_with fail
    with_reducible refine (awake15 w2 (HR.out.after HB2.out)).mono ?_
    rintro e w9 ⟨rfl, hb9⟩
    go_wp2_with fail
    go_ret
    exact ⟨rfl, (BA.out.trans (HB2.out.mono BA.out.size)).trans (hb9.mono (BA.out.trans (HB2.out.mono BA.out.size)).size)⟩
  have d1 : decide ((X.length : Int) < (n : Int)) = false := decide_eq_false (by omega)
  have hn : n ≤ X.length := by omega
  clear ha0 ha1
  go_wp2_with fail
  clear d0 d1 e3
  with_reducible refine (lnew_ok w2).mono ?_
  rintro e w3 ⟨p, bm, la, lc, rfl, hL3, hb3, hp3, -⟩
  have HL3 := Lib.hid hL3
  have HB3 := Lib.hid (HB2.out.trans (hb3.mono HB2.out.size))
  have hpw : p < w3.heap.size := hL3.blk.lt
  have zp : W.heap.size ≤ p := by have := HB2.out.size; omega
  clear hL3 hb3
  go_wp2_with fail
  with_reducible refine (pnew_box 30 w3 (by omega) (by omega)).mono ?_
  rintro e w4 ⟨b, s, rfl, hP4, hX4, hb4, hzb, hzs, hsb⟩
  have z3 := HB3.out.size
  have hbl := hP4.lt
  have HA : Hid (Apart3 W p b s) := ⟨zp, by omega, by omega, by omega, by omega, hsb⟩
  have HE4 : Hid (BkS W p b s 0 (6 * 0) [] w4) := ⟨⟨bm, la, lc, [], HL3.out.after hb4, rfl⟩, WL.nil, ⟨0, hP4, by omega, by omega⟩, hX4, by simp, HB3.out.trans (hb4.mono z3)⟩
  clear hP4 hX4 hb4 HL3 HB3 HB2 z3 hzb hzs hsb hpw zp hbl hp3
  go_wp2_with fail
  go_loopw [10] (fun u wr => ∃ i : Nat, i ≤ ops.length ∧ u = .int .i64 i ∧ ∃ L, Hid (BkS W p b s i (6 * i) L wr)) (fun u _ => ops.length - (intOf u).toNat)
  case atStart => exact ⟨0, by omega, rfl, [], HE4.out⟩
  case round =>
    obtain ⟨i, hi, rfl, L, HE⟩ := hrel
    by_cases hlt : i < ops.length
    · clear hF hO0
      obtain ⟨ab, ao, rfl, hbb, hcell⟩ := H.out.cells (by omega)
      have hC := Lib.hid (hcell i hlt)
      have hO := Lib.hid (H.out.2 i hlt)
      have hF : Hid (FewO (Opc.at ops i)) := Lib.hid (HFew2.out _ (by unfold Opc.at; rw [List.getD_eq_getElem?_getD, List.getElem?_eq_getElem hlt]; exact List.getElem_mem hlt))
      obtain ⟨⟨op, os, ok, oa, ocap, oes⟩, hOO⟩ : ∃ x, Opc.at ops i = x := ⟨_, rfl⟩
      rw [hOO] at hC hO hF
      have hrw : Hid (∀ x ∈ oes, (Lit.int .i64 x.s.ref).wf = true) := fun x hx => by
        obtain ⟨k, hk, rfl⟩ := List.getElem_of_mem hx
        have := (hO.out.en.2 k hk).rw
        unfold En.at at this
        rwa [List.getD_eq_getElem?_getD, List.getElem?_eq_getElem hk] at this
      have i1 : (0 : Int) ≤ (i : Int) := by omega
      have i2 : (i : Int) < (ops.length : Int) := by omega
      clear hcell hOO
      obtain ⟨c0, c1, c2, c3⟩ := hC.out.after HE.out.be hbb
      dsimp only at c0 c1 c2 c3
      obtain ⟨wq, hwq⟩ : ∃ W, wr.alloc (.cells #[.slice none 0 0] 40) = W := ⟨_, rfl⟩
      have hbq : Below wr.heap.size wr wq := by rw [← hwq]; exact (Below.refl _ _).alloc (Nat.le_refl _) _
      have hRq : RqOk wq wr.heap.size none 0 [] := by rw [← hwq]; exact RqOk.new wr
      have HWq := Lib.hid hwq
      have hlt3 : p < wr.heap.size ∧ b < wr.heap.size ∧ s < wr.heap.size := by
        obtain ⟨⟨bm, a, cap, E, h1, _⟩, _, ⟨l, h2, _⟩, _⟩ := HE.out
        exact ⟨h1.blk.lt, h2.lt.1, h2.lt.2⟩
      have HDo := Lib.hid (does_ok W p b s i (6 * i) L wr.heap.size none 0 [] op os ok oa ocap oes wq (HE.out.after hbq) HA.out HR.out (by omega) (by omega) hRq (by simp) WL.nil HE.out.be.size (by omega) (by omega) (by omega) (hO.out.en.few hF.out.2) (by have := hF.out.1; dsimp only at this; omega) hrw.out)
      have hab : ab < wr.heap.size := by have := HE.out.be.size; omega
      clear hwq hbq hRq hlt3
      go_wp2_with fail
      rw [HWq.out]
      with_reducible refine HDo.out.mono ?_
      rintro e w7 ⟨r, lk, ra, rc, R', rfl, hb7, _⟩
      have HN := Lib.hid (hb7.more (show 6 * i + oes.length ≤ 6 * (i + 1) by have := hF.out.1; dsimp only at this; omega))
      clear hb7 HDo HWq c0 c1 c2 c3
      go_wp2_with fail
      go_roundw
      case rel => exact ⟨i + 1, by omega, by go_num, _, HN⟩
      case measure => simp [intOf]; omega
    · obtain rfl : i = ops.length := by omega
      obtain ⟨w0, hw0'⟩ : ∃ w0, w0 = wr := ⟨_, rfl⟩
      subst hw0'
      obtain ⟨bm1, a1, c1, E1, hG, hE1⟩ := HE.out.ex
      have hE1l : E1.length ≤ 200 := by have h1 := congrArg List.length hE1; have h2 := HE.out.len; rw [List.length_map] at h1; omega
      have HCp := Lib.hid (lcopy_ok p bm1 a1 c1 E1 w0 hG (by omega))
      have hpl := hG.blk.lt
      have hE1' := Lib.hid hE1
      have hlt3 : b < w0.heap.size ∧ s < w0.heap.size := by
        obtain ⟨l, h2, _⟩ := HE.out.per
        exact h2.lt
      clear hG hE1
      go_wp2_with fail
      with_reducible refine HCp.out.mono ?_
      rintro e w6 ⟨py, bmy, ay, cy, rfl, hLy, _, hb6, hpy, _⟩
      have HX6 : Hid (BkS W p b s ops.length (6 * ops.length) L w6) := HE.out.after hb6
      have HY6 : Hid (BkS W py b s ops.length (6 * ops.length) L w6) := ⟨⟨bmy, ay, cy, E1, hLy, hE1'.out⟩, HE.out.wl, HX6.out.per, HX6.out.pb, HE.out.len, HX6.out.be⟩
      have zW := HE.out.be.size
      have hyp : py ≠ p := by omega
      have HAy : Hid (Apart3 W py b s) := ⟨by omega, HA.out.hb, HA.out.hs, by omega, by omega, HA.out.nsb⟩
      have HBc : Hid (∀ V, Below W.heap.size W V → V.cell? ⟨w.heap.size, 0, none⟩ = some (.int .i64 pp) ∧ V.cell? ⟨w.heap.size, 1, none⟩ = some (.int .i64 ps) ∧ V.cell? ⟨w.heap.size, 3, none⟩ = some (.slice pa X.length pcap)) := fun V hV => ⟨(HB.out.after hV).cell 0 rfl, (HB.out.after hV).cell 1 rfl, (HB.out.after hV).cell 3 rfl⟩
      have HLn := Lib.hid HX6.out.lens
      have HXw : Hid (∀ x ∈ X, (Lit.int .i64 x.s.ref).wf = true) := fun x hx => by
        obtain ⟨k, hk, rfl⟩ := List.getElem_of_mem hx
        have := (hO0.out.en.2 k hk).rw
        unfold En.at at this
        rwa [List.getD_eq_getElem?_getD, List.getElem?_eq_getElem hk] at this
      have HEx : Hid (EnsAt W pa X) := hO0.out.en.few hF.out.2
      have hX6 : X.length ≤ 6 := hF.out.1
      obtain ⟨pa1, c1', pa2, c2', hsl⟩ := slice_parts pa pcap n X hn hO0.out.le (fun e => hO0.out.nil e)
      have HSl := Lib.hid hsl
      obtain ⟨l, hP6, hl0, hli⟩ := HX6.out.per
      have HPx := Lib.hid (HX6.out.post HA.out HR.out (by omega) hP6 hl0 hli pp ps pa pcap X (HEx.out.after HX6.out.be) (by omega) HXw.out)
      have HP6 := Lib.hid hP6
      obtain ⟨T, hT⟩ : ∃ T, decide (0 ≤ pp ∧ pp ≤ lastP 30) = T := ⟨_, rfl⟩
      obtain ⟨K, hK⟩ : ∃ K, decide (pp < l) = K := ⟨_, rfl⟩
      have HTK := Lib.hid (⟨hT, hK⟩ : decide (0 ≤ pp ∧ pp ≤ lastP 30) = T ∧ decide (pp < l) = K)
      have hpt := post_parts (there := T) (lk := K) (per := pp) (seq := ps) (L := L) (A := (X.take n).map En.p) (B := (X.drop n).map En.p)
      rw [← List.map_append, List.take_append_drop] at hpt
      have HPt := Lib.hid hpt
      clear hsl hP6 hT hK hpt hLy hb6 hpy HCp HE hpl hlt3 hE1' hE1l zW
      go_wp2_with fail
      with_reducible refine HLn.out.mono ?_
      rintro e w7 ⟨rfl, hw7⟩
      obtain rfl : w6 = w7 := hw7.symm
      clear HLn
      obtain ⟨e0, e1, e3⟩ := HBc.out w6 HX6.out.be
      go_wp2_with fail
      clear e0 e1 e3
      with_reducible refine HPx.out.mono ?_
      rintro e w7 ⟨er, her, rfl, hX7, hP7, hT7⟩
      obtain ⟨nn, hnn⟩ : ∃ x, (if er = 0 then (L.length : Int) else 0) = x := ⟨_, rfl⟩
      rw [hnn]
      rw [HTK.out.1, HTK.out.2] at her hX7
      have HY7 : Hid (BkS W py b s ops.length (6 * ops.length) L w7) := HY6.out.other hT7 HX6.out.bx HA.out.hp (by omega) HA.out.npb HA.out.nps
      have HP7 := Lib.hid hP7
      have HEr := Lib.hid her
      have HX7 := Lib.hid hX7
      have HLy := Lib.hid HY7.out.lens
      clear her hX7 hP7 hT7 hnn HY6 HX6 HPx HP6
      by_cases h0 : er = 0
      case neg =>
        have d2 : (er == 0) = false := by rw [beq_eq_false_iff_ne]; exact h0
        have d3 : (er != 0) = true := by rw [bne_iff_ne]; exact h0
        have hpl : postL T K pp ps L (X.map En.p) = L := by unfold postL; rw [← HEr.out, if_neg h0]
        have HLx : Hid (Calls Tryd.prog 27 #[.pointer (some ⟨p, 0, none⟩)] w7 fun e w' => e = .returned (.int .i64 (L.length : Int)) ∧ w' = w7) := by
          have := HX7.out.lens
          rwa [hpl] at this
        clear hpl
        have H0 := Lib.hid h0
        clear h0
        go_wp2_with fail
        with_reducible refine HLy.out.mono ?_
        rintro e w8 ⟨rfl, hw8⟩
        obtain rfl : w7 = w8 := hw8.symm
        clear HLy
        go_wp2_with fail
        with_reducible refine HLx.out.mono ?_
        rintro e w8 ⟨rfl, hw8⟩
        obtain rfl : w7 = w8 := hw8.symm
        clear HLx
        go_wp2_with fail
        have HPy : Hid (∀ V a' c', Below w7.heap.size w7 V → EnsAt V a' (X.take n) → Calls Tryd.prog 20 #[.pointer (some ⟨py, 0, none⟩), .pointer (some ⟨b, 0, none⟩), .int .i64 pp, .int .i64 ps, .slice a' n c'] V (PoQ W py b s ops.length (6 * ops.length) L l pp ps (X.take n) V)) := fun V a' c' hV hA => by
          have := (HY7.out.after hV).post HAy.out HR.out (by omega) (HP7.out.after hV) hl0 hli pp ps a' c' (X.take n) hA (by rw [List.length_take]; omega) (fun x hx => HXw.out x (List.mem_of_mem_take hx))
          rwa [show (X.take n).length = n by rw [List.length_take]; omega] at this
        have HG : Hid (∀ V, Below w7.heap.size w7 V → V.cell? ⟨w.heap.size, 0, none⟩ = some (.int .i64 pp) ∧ V.cell? ⟨w.heap.size, 1, none⟩ = some (.int .i64 ps) ∧ V.cell? ⟨w.heap.size, 3, none⟩ = some (.slice pa X.length pcap)) := fun V hV => HBc.out V (HY7.out.be.trans (hV.mono HY7.out.be.size))
        have bd : Below w7.heap.size w7 w7.drew := (Below.refl _ _).drew
        have hAd := (HSl.out.2.2 w7.drew (HEx.out.after (HY7.out.be.trans (bd.mono HY7.out.be.size)))).1
        have HPy2 := Lib.hid (HPy.out w7.drew pa1 c1' bd hAd)
        have hs1 := HSl.out.1
        clear hAd
        go_region_held3 (fun V => V.cell? ⟨w.heap.size, 0, none⟩ = some (.int .i64 pp) ∧ V.cell? ⟨w.heap.size, 1, none⟩ = some (.int .i64 ps) ∧ V.cell? ⟨w.heap.size, 3, none⟩ = some (.slice pa X.length pcap))
          (first | with_reducible exact HG.out _ bd | with_reducible exact hs8 | go_keep)
          (first | (go_at_call 20; (with_reducible refine HPy2.out.mono ?_); rintro e w8 ⟨g, hg, rfl, hY8, hP8, hT8⟩; have HG0 := Lib.hid hg; clear hg; (obtain ⟨ng, hng⟩ : ∃ x, (if g = 0 then (L.length : Int) else 0) = x := ⟨_, rfl⟩); rw [hng]; clear hng; have hs8 := HBc.out w8 hY8.be))
        have hT7' : Turn [py] w7 w8 := (Turn.of_below bd |> fun h => (⟨h.os, h.tape, h.output, h.size, h.block⟩ : Turn [py] w7 w7.drew)).trans hT8
        have HG8 : Hid (g = postE T K pp ps L ((X.take n).map En.p)) := by show _ = _; rw [HG0.out, HTK.out.1, HTK.out.2]
        clear hs1 bd hs8 HPy HPy2 HG HG0 hT8
        have HP8 := Lib.hid hP8
        rw [HTK.out.1, HTK.out.2] at hY8
        have HY8 : Hid (BkS W py b s ops.length (6 * ops.length + (X.take n).length) (postL T K pp ps L ((X.take n).map En.p)) w8) := hY8
        clear hY8 hP8
        by_cases hg0 : g = 0
        case neg =>
          obtain rfl : g = er := by
            have h1 := HPt.out.1
            rw [← HEr.out, ← HG8.out, if_neg hg0] at h1
            exact h1.symm
          clear hg0
          go_wp2_with fail
          with_reducible refine (awake15 w8 (HR.out.after HY8.out.be)).mono ?_
          rintro e wz ⟨rfl, hbz⟩
          go_wp2_with fail
          go_ret
          exact ⟨rfl, (BA.out.trans ((HY8.out.be).mono BA.out.size)).trans (hbz.mono (BA.out.trans ((HY8.out.be).mono BA.out.size)).size)⟩
        case pos =>
          subst hg0
          have HPy : Hid (∀ V a' c', Below w8.heap.size w8 V → EnsAt V a' (X.drop n) → Calls Tryd.prog 20 #[.pointer (some ⟨py, 0, none⟩), .pointer (some ⟨b, 0, none⟩), .int .i64 pp, .int .i64 ps, .slice a' (X.length - n) c'] V (PoQ W py b s ops.length (6 * ops.length + (X.take n).length) (postL T K pp ps L ((X.take n).map En.p)) l pp ps (X.drop n) V)) := fun V a' c' hV hA => by
            have hk : (X.take n).length ≤ 6 := by rw [List.length_take]; omega
            have := (HY8.out.after hV).post HAy.out HR.out (by omega) (HP8.out.after hV) hl0 hli pp ps a' c' (X.drop n) hA (by rw [List.length_drop]; omega) (fun x hx => HXw.out x (List.mem_of_mem_drop hx))
            rwa [show (X.drop n).length = X.length - n by rw [List.length_drop]] at this
          have HG : Hid (∀ V, Below w8.heap.size w8 V → V.cell? ⟨w.heap.size, 0, none⟩ = some (.int .i64 pp) ∧ V.cell? ⟨w.heap.size, 1, none⟩ = some (.int .i64 ps) ∧ V.cell? ⟨w.heap.size, 3, none⟩ = some (.slice pa X.length pcap)) := fun V hV => HBc.out V (HY8.out.be.trans (hV.mono HY8.out.be.size))
          have bd : Below w8.heap.size w8 w8.drew := (Below.refl _ _).drew
          have hAd := (HSl.out.2.2 w8.drew (HEx.out.after (HY8.out.be.trans (bd.mono HY8.out.be.size)))).2
          have HPy2 := Lib.hid (HPy.out w8.drew pa2 c2' bd hAd)
          have hs2 := HSl.out.2.1
          clear hAd
          go_wp2_with fail
          go_region_held3 (fun V => V.cell? ⟨w.heap.size, 0, none⟩ = some (.int .i64 pp) ∧ V.cell? ⟨w.heap.size, 1, none⟩ = some (.int .i64 ps) ∧ V.cell? ⟨w.heap.size, 3, none⟩ = some (.slice pa X.length pcap))
            (first | with_reducible exact HG.out _ bd | with_reducible exact hs9 | go_keep)
            (first | (go_at_call 20; (with_reducible refine HPy2.out.mono ?_); rintro e w9 ⟨g9, hg9, rfl, hY9, hP9, hT9⟩; have HG0 := Lib.hid hg9; clear hg9; (obtain ⟨ng9, hng⟩ : ∃ x, (if g9 = 0 then ((postL T K pp ps L ((X.take n).map En.p)).length : Int) else 0) = x := ⟨_, rfl⟩); rw [hng]; clear hng; have hs9 := HBc.out w9 hY9.be))
          have hT9' : Turn [py] w8 w9 := (Turn.of_below bd |> fun h => (⟨h.os, h.tape, h.output, h.size, h.block⟩ : Turn [py] w8 w8.drew)).trans hT9
          have hg9 := HG0.out
          rw [HTK.out.1, HTK.out.2] at hg9 hY9
          have HG9 := Lib.hid hg9
          have HY9 := Lib.hid hY9
          clear hs2 bd hs9 HPy HPy2 HG HG0 hg9 hT9 hY9 hP9
          obtain rfl : g9 = er := by
            have h1 := HPt.out.1
            rw [← HEr.out, ← HG8.out, if_pos rfl] at h1
            rw [h1]; exact HG9.out
          go_wp2_with fail
          with_reducible refine (awake15 w9 (HR.out.after HY9.out.be)).mono ?_
          rintro e wz ⟨rfl, hbz⟩
          go_wp2_with fail
          go_ret
          exact ⟨rfl, (BA.out.trans ((HY9.out.be).mono BA.out.size)).trans (hbz.mono (BA.out.trans ((HY9.out.be).mono BA.out.size)).size)⟩
      case pos =>
        subst h0
        go_wp2_with fail
        with_reducible refine HLy.out.mono ?_
        rintro e w8 ⟨rfl, hw8⟩
        obtain rfl : w7 = w8 := hw8.symm
        clear HLy
        go_wp2_with fail
        have HPy : Hid (∀ V a' c', Below w7.heap.size w7 V → EnsAt V a' (X.take n) → Calls Tryd.prog 20 #[.pointer (some ⟨py, 0, none⟩), .pointer (some ⟨b, 0, none⟩), .int .i64 pp, .int .i64 ps, .slice a' n c'] V (PoQ W py b s ops.length (6 * ops.length) L l pp ps (X.take n) V)) := fun V a' c' hV hA => by
          have := (HY7.out.after hV).post HAy.out HR.out (by omega) (HP7.out.after hV) hl0 hli pp ps a' c' (X.take n) hA (by rw [List.length_take]; omega) (fun x hx => HXw.out x (List.mem_of_mem_take hx))
          rwa [show (X.take n).length = n by rw [List.length_take]; omega] at this
        have HG : Hid (∀ V, Below w7.heap.size w7 V → V.cell? ⟨w.heap.size, 0, none⟩ = some (.int .i64 pp) ∧ V.cell? ⟨w.heap.size, 1, none⟩ = some (.int .i64 ps) ∧ V.cell? ⟨w.heap.size, 3, none⟩ = some (.slice pa X.length pcap)) := fun V hV => HBc.out V (HY7.out.be.trans (hV.mono HY7.out.be.size))
        have bd : Below w7.heap.size w7 w7.drew := (Below.refl _ _).drew
        have hAd := (HSl.out.2.2 w7.drew (HEx.out.after (HY7.out.be.trans (bd.mono HY7.out.be.size)))).1
        have HPy2 := Lib.hid (HPy.out w7.drew pa1 c1' bd hAd)
        have hs1 := HSl.out.1
        clear hAd
        go_region_held3 (fun V => V.cell? ⟨w.heap.size, 0, none⟩ = some (.int .i64 pp) ∧ V.cell? ⟨w.heap.size, 1, none⟩ = some (.int .i64 ps) ∧ V.cell? ⟨w.heap.size, 3, none⟩ = some (.slice pa X.length pcap))
          (first | with_reducible exact HG.out _ bd | with_reducible exact hs8 | go_keep)
          (first | (go_at_call 20; (with_reducible refine HPy2.out.mono ?_); rintro e w8 ⟨g, hg, rfl, hY8, hP8, hT8⟩; have HG0 := Lib.hid hg; clear hg; (obtain ⟨ng, hng⟩ : ∃ x, (if g = 0 then (L.length : Int) else 0) = x := ⟨_, rfl⟩); rw [hng]; clear hng; have hs8 := HBc.out w8 hY8.be))
        have hT7' : Turn [py] w7 w8 := (Turn.of_below bd |> fun h => (⟨h.os, h.tape, h.output, h.size, h.block⟩ : Turn [py] w7 w7.drew)).trans hT8
        have HG8 : Hid (g = postE T K pp ps L ((X.take n).map En.p)) := by show _ = _; rw [HG0.out, HTK.out.1, HTK.out.2]
        clear hs1 bd hs8 HPy HPy2 HG HG0 hT8
        have HP8 := Lib.hid hP8
        rw [HTK.out.1, HTK.out.2] at hY8
        have HY8 : Hid (BkS W py b s ops.length (6 * ops.length + (X.take n).length) (postL T K pp ps L ((X.take n).map En.p)) w8) := hY8
        clear hY8 hP8
        have hp2 := HPt.out.2 HEr.out.symm
        obtain rfl : g = 0 := by rw [HG8.out]; exact hp2.1
        have HLL := Lib.hid hp2.2
        have HLe := Lib.hid HX7.out.len
        obtain ⟨bmX, aX, capX, EX, hGX, hEX⟩ := HX7.out.ex
        have hbxy : Bx w7 py := HY7.out.bx
        have HX8 := Lib.hid (HX7.out.other hT7' hbxy HAy.out.hp (by omega) HAy.out.npb HAy.out.nps)
        clear hp2 hGX hEX hbxy
        have HPy : Hid (∀ V a' c', Below w8.heap.size w8 V → EnsAt V a' (X.drop n) → Calls Tryd.prog 20 #[.pointer (some ⟨py, 0, none⟩), .pointer (some ⟨b, 0, none⟩), .int .i64 pp, .int .i64 ps, .slice a' (X.length - n) c'] V (PoQ W py b s ops.length (6 * ops.length + (X.take n).length) (postL T K pp ps L ((X.take n).map En.p)) l pp ps (X.drop n) V)) := fun V a' c' hV hA => by
          have hk : (X.take n).length ≤ 6 := by rw [List.length_take]; omega
          have := (HY8.out.after hV).post HAy.out HR.out (by omega) (HP8.out.after hV) hl0 hli pp ps a' c' (X.drop n) hA (by rw [List.length_drop]; omega) (fun x hx => HXw.out x (List.mem_of_mem_drop hx))
          rwa [show (X.drop n).length = X.length - n by rw [List.length_drop]] at this
        have HG : Hid (∀ V, Below w8.heap.size w8 V → V.cell? ⟨w.heap.size, 0, none⟩ = some (.int .i64 pp) ∧ V.cell? ⟨w.heap.size, 1, none⟩ = some (.int .i64 ps) ∧ V.cell? ⟨w.heap.size, 3, none⟩ = some (.slice pa X.length pcap)) := fun V hV => HBc.out V (HY8.out.be.trans (hV.mono HY8.out.be.size))
        have bd : Below w8.heap.size w8 w8.drew := (Below.refl _ _).drew
        have hAd := (HSl.out.2.2 w8.drew (HEx.out.after (HY8.out.be.trans (bd.mono HY8.out.be.size)))).2
        have HPy2 := Lib.hid (HPy.out w8.drew pa2 c2' bd hAd)
        have hs2 := HSl.out.2.1
        clear hAd
        go_wp2_with fail
        go_region_held3 (fun V => V.cell? ⟨w.heap.size, 0, none⟩ = some (.int .i64 pp) ∧ V.cell? ⟨w.heap.size, 1, none⟩ = some (.int .i64 ps) ∧ V.cell? ⟨w.heap.size, 3, none⟩ = some (.slice pa X.length pcap))
          (first | with_reducible exact HG.out _ bd | with_reducible exact hs9 | go_keep)
          (first | (go_at_call 20; (with_reducible refine HPy2.out.mono ?_); rintro e w9 ⟨g9, hg9, rfl, hY9, hP9, hT9⟩; have HG0 := Lib.hid hg9; clear hg9; (obtain ⟨ng9, hng⟩ : ∃ x, (if g9 = 0 then ((postL T K pp ps L ((X.take n).map En.p)).length : Int) else 0) = x := ⟨_, rfl⟩); rw [hng]; clear hng; have hs9 := HBc.out w9 hY9.be))
        have hT9' : Turn [py] w8 w9 := (Turn.of_below bd |> fun h => (⟨h.os, h.tape, h.output, h.size, h.block⟩ : Turn [py] w8 w8.drew)).trans hT9
        have hg9 := HG0.out
        rw [HTK.out.1, HTK.out.2] at hg9 hY9
        have HG9 := Lib.hid hg9
        have HY9 := Lib.hid hY9
        clear hs2 bd hs9 HPy HPy2 HG HG0 hg9 hT9 hY9 hP9
        obtain rfl : g9 = 0 := by
          have h1 := HPt.out.1
          rw [← HEr.out, ← HG8.out, if_pos rfl] at h1
          rw [h1]; exact HG9.out
        have HX9 := Lib.hid (HX8.out.other hT9' HY8.out.bx HAy.out.hp (by omega) HAy.out.npb HAy.out.nps)
        rw [HLL.out] at HY9
        obtain ⟨M, hM⟩ : ∃ M, postL T K pp ps L (X.map En.p) = M := ⟨_, rfl⟩
        rw [hM] at HX9 HY9
        clear hM HLL HX8 HX7 HY8 HY7 HPt HEr HG8 HG9 hT9' hT7' HLe HTK HSl HEx HXw
        have hml : 6 * ops.length + X.length ≤ 200 := by omega
        have hml2 : 6 * ops.length + (X.take n).length + (X.drop n).length ≤ 200 := by rw [List.length_take, List.length_drop]; omega
        have hMl : M.length ≤ 200 := Nat.le_trans HX9.out.len hml
        have HAx := Lib.hid (HX9.out.all hml)
        go_wp2_with fail
        with_reducible refine HAx.out.mono ?_
        rintro e w10 ⟨Bc, rfl, hb10, hLi⟩
        have HLi := Lib.hid hLi
        have HY10 := Lib.hid (HY9.out.after hb10)
        clear hLi hb10 HAx HX9 HY9
        go_wp2_with fail
        with_reducible refine HLi.out.mono ?_
        rintro e w11 ⟨an, cn, ae, ce, zs, hzs, rfl, -, hse, hok, hb11, -⟩
        have hm1 : (idxP M).length = M.length := idxP_len M
        rw [hm1]
        have hz1 := zs_p hzs
        obtain ⟨Z, hZ⟩ : ∃ Z, zs.map Prod.snd = Z := ⟨_, rfl⟩
        rw [hZ] at hse hz1
        have HZ := Lib.hid hz1
        have HO1 : Hid (SlAt w11 7 En.cs ae ce Z ∧ ∀ e ∈ Z, EnOk w11 e) := ⟨hse, fun e he => by
          rw [← hZ] at he
          obtain ⟨z, hz, rfl⟩ := List.mem_map.1 he
          exact hok z hz⟩
        have HY11 := Lib.hid (HY10.out.after hb11)
        have HAy2 := Lib.hid (HY11.out.all hml2)
        clear hm1 hz1 hse hok hb11 hzs hZ HLi HY10
        go_wp2_with fail
        with_reducible refine HAy2.out.mono ?_
        rintro e w12 ⟨Bc', rfl, hb12, hLi⟩
        have HLi := Lib.hid hLi
        have HB12 := Lib.hid hb12
        clear hLi hb12 HAy2
        go_wp2_with fail
        with_reducible refine HLi.out.mono ?_
        rintro e w13 ⟨an2, cn2, ae2, ce2, zs2, hzs2, rfl, -, hse2, hok2, hb13, -⟩
        have hm2 : (idxP M).length = M.length := idxP_len M
        rw [hm2]
        have hz2 := zs_p hzs2
        obtain ⟨Z2, hZ2⟩ : ∃ Z2, zs2.map Prod.snd = Z2 := ⟨_, rfl⟩
        rw [hZ2] at hse2 hz2
        have HZ2 := Lib.hid hz2
        have hb := HB12.out.trans (hb13.mono HB12.out.size)
        have HT : Hid (TwoL W ae ce Z ae2 ce2 Z2 w13) := ⟨HO1.out.1.after hb, fun e he => (HO1.out.2 e he).after hb, hse2, fun e he => by
          rw [← hZ2] at he
          obtain ⟨z, hz, rfl⟩ := List.mem_map.1 he
          exact hok2 z hz, HY11.out.be.trans (hb.mono HY11.out.be.size)⟩
        have hlen : M.length = Z.length := by rw [← HZ.out]; simp
        have hlen2 : Z2.length = Z.length := by rw [← hlen, ← HZ2.out]; simp
        rw [hlen] at hMl
        rw [hlen]
        clear hm2 hz2 hse2 hok2 hb13 hb hzs2 hZ2 HLi HB12 HY11 HO1 hlen
        go_wp2_with fail
        go_loopw [24] (fun v wr => ∃ k : Nat, k ≤ Z.length ∧ v = .int .i64 k ∧ Hid (TwoL W ae ce Z ae2 ce2 Z2 wr)) (fun v _ => Z.length - (intOf v).toNat)
        case atStart => exact ⟨0, by omega, rfl, HT⟩
        case round =>
          obtain ⟨k, hk, rfl, HN⟩ := hrel
          by_cases hkl : k < Z.length
          · obtain ⟨nb, no', rfl, hnb, hnc⟩ := HN.out.s1.at7 (by omega)
            obtain ⟨mb, mo, rfl, hmb, hmc⟩ := HN.out.s2.at7 (by omega)
            have g1 := hnc k hkl
            have g2 := hmc k (by omega)
            have o1 := at_okE' HN.out.o1 hkl
            have o2 := at_okE' HN.out.o2 (show k < Z2.length by omega)
            obtain ⟨e1, e2⟩ := same_at' HZ2.out HZ.out k hkl
            obtain ⟨⟨⟨x0, x1, x2, x3, x4, x5⟩, xa, xc, xl⟩, hX⟩ : ∃ E, En.at Z k = E := ⟨_, rfl⟩
            obtain ⟨⟨ys, ya, yc, yl⟩, hY⟩ : ∃ E, En.at Z2 k = E := ⟨_, rfl⟩
            rw [hX] at g1 o1 e1 e2
            rw [hY] at g2 o2 e1 e2
            dsimp only at e1 e2
            subst e1 e2
            clear hX hY hnc hmc
            have bd := (Below.refl wr.heap.size wr).drew
            have HG : Hid (∀ V, Below wr.heap.size wr V → (V.cell? ⟨nb, no' + k * 7, none⟩ = some (.int .i64 x0) ∧ V.cell? ⟨nb, no' + k * 7 + 1, none⟩ = some (.int .i64 x1) ∧ V.cell? ⟨nb, no' + k * 7 + 2, none⟩ = some (.int .i64 x2) ∧ V.cell? ⟨nb, no' + k * 7 + 3, none⟩ = some (.int .i64 x3) ∧ V.cell? ⟨nb, no' + k * 7 + 4, none⟩ = some (.int .i64 x4) ∧ V.cell? ⟨nb, no' + k * 7 + 5, none⟩ = some (.int .i64 x5) ∧ V.cell? ⟨nb, no' + k * 7 + 6, none⟩ = some (.slice xa yl.length xc)) ∧ (V.cell? ⟨mb, mo + k * 7, none⟩ = some (.int .i64 x0) ∧ V.cell? ⟨mb, mo + k * 7 + 1, none⟩ = some (.int .i64 x1) ∧ V.cell? ⟨mb, mo + k * 7 + 2, none⟩ = some (.int .i64 x2) ∧ V.cell? ⟨mb, mo + k * 7 + 3, none⟩ = some (.int .i64 x3) ∧ V.cell? ⟨mb, mo + k * 7 + 4, none⟩ = some (.int .i64 x4) ∧ V.cell? ⟨mb, mo + k * 7 + 5, none⟩ = some (.int .i64 x5) ∧ V.cell? ⟨mb, mo + k * 7 + 6, none⟩ = some (.slice ya yl.length yc))) := fun V hV => ⟨g1.after hV hnb, g2.after hV hmb⟩
            have hsy := same_yes ⟨x0, x1, x2, x3, x4, x5⟩ xa ya xc yc yl wr.drew (o1.after bd).ln (o2.after bd).ln (Nat.le_trans o1.few (by omega))
            dsimp only [entV] at hsy
            have HSY := Lib.hid hsy
            have k1 : (0 : Int) ≤ (k : Int) := by omega
            have k2 : (k : Int) < (Z.length : Int) := by omega
            clear g1 g2 o1 o2 hsy
            go_wp2_with fail
            go_region_held3 (fun V => (V.cell? ⟨nb, no' + k * 7, none⟩ = some (.int .i64 x0) ∧ V.cell? ⟨nb, no' + k * 7 + 1, none⟩ = some (.int .i64 x1) ∧ V.cell? ⟨nb, no' + k * 7 + 2, none⟩ = some (.int .i64 x2) ∧ V.cell? ⟨nb, no' + k * 7 + 3, none⟩ = some (.int .i64 x3) ∧ V.cell? ⟨nb, no' + k * 7 + 4, none⟩ = some (.int .i64 x4) ∧ V.cell? ⟨nb, no' + k * 7 + 5, none⟩ = some (.int .i64 x5) ∧ V.cell? ⟨nb, no' + k * 7 + 6, none⟩ = some (.slice xa yl.length xc)) ∧ (V.cell? ⟨mb, mo + k * 7, none⟩ = some (.int .i64 x0) ∧ V.cell? ⟨mb, mo + k * 7 + 1, none⟩ = some (.int .i64 x1) ∧ V.cell? ⟨mb, mo + k * 7 + 2, none⟩ = some (.int .i64 x2) ∧ V.cell? ⟨mb, mo + k * 7 + 3, none⟩ = some (.int .i64 x3) ∧ V.cell? ⟨mb, mo + k * 7 + 4, none⟩ = some (.int .i64 x4) ∧ V.cell? ⟨mb, mo + k * 7 + 5, none⟩ = some (.int .i64 x5) ∧ V.cell? ⟨mb, mo + k * 7 + 6, none⟩ = some (.slice ya yl.length yc)))
              (first | with_reducible exact HG.out wr.drew (Below.refl wr.heap.size wr).drew | with_reducible exact HG.out _ hBq | go_keep)
              (first | (go_at_call 26; (with_reducible refine HSY.out.mono ?_); rintro e wq ⟨rfl, hbq⟩; have hBq : Below wr.heap.size wr wq := (Below.refl wr.heap.size wr).drew.trans hbq))
            have HN9 := Lib.hid (HN.out.after hBq)
            clear hbq hBq HSY HG
            go_wp2_with fail
            go_roundw
            case rel => exact ⟨k + 1, by omega, by go_num, HN9⟩
            case measure => simp [intOf]; omega
          · obtain rfl : k = Z.length := by omega
            go_wp2_with fail
            with_reducible refine (awake15 wr (HR.out.after HN.out.be)).mono ?_
            rintro e wz ⟨rfl, hbz⟩
            go_wp2_with fail
            go_ret
            exact ⟨rfl, (BA.out.trans ((HN.out.be).mono BA.out.size)).trans (hbz.mono (BA.out.trans ((HN.out.be).mono BA.out.size)).size)⟩

end Go.Proofs.YtpinhomalmknjaaDoor
/- The statement LedgerParts' arguments. -/
namespace Go.Proofs.YtpinhomalmknjaaDoor
open Go.ChangeShapes Go.WideShapes Go.ChangeAt Go.RowKit
set_option linter.unusedVariables false
set_option maxRecDepth 100000

theorem open_LedgerParts {H : Type} (enc : TypeId × Value → H) (base : Nat) (W : World) (hR : RulesAt W) (v0 : Value) (d0 : DataW H) (p0 : List MemPlace) (h0 : DataW.Trod enc Tryd.prog W 0 (fun _ => true) true 22 v0 d0 p0) (ok0 : Value.okWide Tryd.prog W .any base 22 v0)
    (v1 : Value) (d1 : DataW H) (p1 : List MemPlace) (h1' : DataW.Trod enc Tryd.prog W 0 (fun _ => true) true 44 v1 d1 p1) (ok1 : Value.okWide Tryd.prog W .any base 44 v1)
    (no : Int) (hno : -9223372036854775808 ≤ no ∧ no ≤ 9223372036854775807) :
    Calls Tryd.prog 5 #[v0, v1, .int .i64 no] W fun e W' => e = .returned (.bool true) ∧ Below W.heap.size W W' := by
  obtain ⟨o, rfl, q⟩ := open_op h1' ok1
  obtain ⟨a, len, cap, rfl⟩ := okWide_slice Tryd.underlying22 ok0
  have hl := arg_leaves (d := 2) (ls := [22]) (by kernel_rfl) h0
  obtain ⟨c0, cs0, e0, h1, hl⟩ := hl.cons
  obtain rfl := hl.nil
  simp only [Value.cells, List.cons.injEq, and_true] at e0
  subst e0
  obtain ⟨a', cap', ops, e1, q1, q2, q3, q4⟩ := open_ops_leaf h1
  rw [e1]
  exact walk_LedgerParts W hR a' cap' ops q1 (by omega) o q no

end Go.Proofs.YtpinhomalmknjaaDoor
