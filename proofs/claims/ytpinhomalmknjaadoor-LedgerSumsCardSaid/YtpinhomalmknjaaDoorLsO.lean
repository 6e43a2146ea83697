/- Books that are written off: the plain law; calls done one behind the other. -/
import Derived.Test.YtpinhomalmknjaaDoorQd
namespace Go.Proofs.YtpinhomalmknjaaDoor
open Go.RowKit Go.Sort Go.Shelf
set_option linter.unusedVariables false
set_option linter.unusedSimpArgs false
set_option maxRecDepth 100000

theorem revI_take {L : List EnP} {j : Nat} {no : Int} (h : ∀ i e, i < j → L[i]? = some e → ¬ (e.s.ref = no ∧ 0 ≤ no)) : revI (L.take j) no = none := by
  unfold revI
  rw [List.findIdx?_eq_none_iff]
  intro e he
  obtain ⟨i, hi, rfl⟩ := List.getElem_of_mem he
  rw [List.length_take] at hi
  have := h i (L[i]'(by omega)) (by omega) (List.getElem?_eq_getElem (by omega))
  rw [List.getElem_take]
  simpa using this
theorem WL.wrong_take {L : List EnP} (h : WL L) {j : Nat} {e : EnP} (he : L[j]? = some e) : wrongE (L.take j) e = 0 := by
  have hc := h.ck e (List.mem_of_getElem? he)
  by_cases hr : e.s.ref = -1
  · exact wrongE_new hc hr
  · obtain ⟨old, h1, h2, h3, h4⟩ := h.ref j e he hr
    have h5 := (h.refs he hr).1
    rw [wrongE_in hc hr (old := old) (by rw [List.getElem?_take_of_lt h2]; exact h1)]
    have hv : revI (L.take j) e.s.ref = none := revI_take fun i f hi hf hh => by
      have := h.one i j f e hf he hh.1 (by rw [hh.1]; exact hr)
      omega
    rw [hv, if_neg (by simp), if_neg (by simpa using h3), if_pos h4]
theorem WL.takeW {L : List EnP} (h : WL L) (j : Nat) : WL (L.take j) := by
  refine ⟨fun e he => h.ck e (List.mem_of_mem_take he), fun k e hk hr => ?_, fun i k e f hi hk he hr => ?_, h.seq.sublist (List.take_sublist j L)⟩
  · have hkj : k < j := by have := (List.getElem?_eq_some_iff.1 hk).1; rw [List.length_take] at this; omega
    rw [List.getElem?_take_of_lt hkj] at hk
    obtain ⟨old, h1, h2, h3⟩ := h.ref k e hk hr
    exact ⟨old, by rw [List.getElem?_take_of_lt (by omega)]; exact h1, h2, h3⟩
  · have hij : i < j := by have := (List.getElem?_eq_some_iff.1 hi).1; rw [List.length_take] at this; omega
    have hkj : k < j := by have := (List.getElem?_eq_some_iff.1 hk).1; rw [List.length_take] at this; omega
    rw [List.getElem?_take_of_lt hij] at hi
    rw [List.getElem?_take_of_lt hkj] at hk
    exact h.one i k e f hi hk he hr
theorem seqOf_take {L : List EnP} (h : WL L) {j : Nat} {e : EnP} (he : L[j]? = some e) : seqOf (L.take j) ≤ e.s.seq := by
  unfold seqOf
  have h0 := (check_nums (h.ck e (List.mem_of_getElem? he))).1
  cases hg : (L.take j).getLast? with
  | none => exact h0
  | some f =>
    obtain ⟨hj, hje⟩ := List.getElem?_eq_some_iff.1 he
    rw [List.getLast?_eq_getElem?] at hg
    have hlt := (List.getElem?_eq_some_iff.1 hg).1
    rw [List.length_take] at hlt hg
    rw [List.getElem?_take_of_lt (by omega)] at hg
    obtain ⟨hi, hie⟩ := List.getElem?_eq_some_iff.1 hg
    have := List.pairwise_iff_getElem.1 h.seq _ _ hi hj (by omega)
    rw [hie, hje] at this
    exact this
theorem stamp_self (e : EnP) : stamp e.s.per e.s.seq e = e := rfl
/-- What is written off is put. -/
theorem WL.off {L : List EnP} (h : WL L) (hp : PerOk L) {j : Nat} {e : EnP} (he : L[j]? = some e) : postE (decide (0 ≤ e.s.per ∧ e.s.per ≤ lastP 30)) (decide (e.s.per < 0)) e.s.per e.s.seq (L.take j) [e] = 0 ∧ postL (decide (0 ≤ e.s.per ∧ e.s.per ≤ lastP 30)) (decide (e.s.per < 0)) e.s.per e.s.seq (L.take j) [e] = L.take (j + 1) := by
  have hm := List.mem_of_getElem? he
  obtain ⟨p0, p1⟩ := hp e hm
  obtain ⟨s0, _⟩ := check_nums (h.ck e hm)
  have hE : postE (decide (0 ≤ e.s.per ∧ e.s.per ≤ lastP 30)) (decide (e.s.per < 0)) e.s.per e.s.seq (L.take j) [e] = 0 := by
    rw [decide_eq_true (show 0 ≤ e.s.per ∧ e.s.per ≤ lastP 30 from ⟨p0, p1⟩), decide_eq_false (show ¬ e.s.per < 0 by omega)]
    unfold postE
    have hq := seqOf_take h he
    rw [if_neg (by decide), if_neg (by decide), if_neg (by omega)]
    unfold postK
    rw [if_pos (h.wrong_take he)]
    rfl
  refine ⟨hE, ?_⟩
  unfold postL
  rw [if_pos hE]
  obtain ⟨hj, hje⟩ := List.getElem?_eq_some_iff.1 he
  rw [List.take_succ_eq_append_getElem hj, hje]
  rfl
theorem BkS.more {W : World} {p b s i m m' : Nat} {L : List EnP} {A : World} (h : BkS W p b s i m L A) (hm : m ≤ m') : BkS W p b s i m' L A := ⟨h.ex, h.wl, h.per, h.pb, Nat.le_trans h.len hm, h.be⟩
theorem Turn.drop3 {p b q : Nat} {w0 w w' : World} (h0 : Below w0.heap.size w0 w) (t : Turn [p, b, q] w w') (hq : w0.heap.size ≤ q) : Turn [p, b] w0 w' :=
  ⟨t.os.trans h0.os, t.tape.trans h0.tape, t.output.trans h0.output, Nat.le_trans h0.size t.size, fun k hk hn => (t.block k (by have := h0.size; omega) (by simp at hn ⊢; omega)).trans (h0.block k hk)⟩
theorem RqOk.new (w : World) : RqOk (w.alloc (.cells #[.slice none 0 0] 40)) w.heap.size none 0 [] :=
  ⟨⟨Blk.new _ _ _, ⟨fun h => absurd h (by simp), Nat.le_refl _, Nat.zero_le _, .inl ⟨rfl, rfl, rfl⟩⟩, fun e he => by simp at he⟩, fun _ => ⟨rfl, rfl⟩⟩
/-- The books of a loop of calls, and of the others'. -/
structure LpS (W : World) (p b s i : Nat) (wr : World) : Prop where
  ex : ∃ L, BkS W p b s i (6 * i) L wr ∧ PerOk L
structure YyS (py b2 s2 : Nat) (wr : World) : Prop where
  y : ∃ bm a cap, LgAt wr py bm a cap []
  per : Per wr b2 s2 30 0
theorem YyS.after {py b2 s2 : Nat} {A C : World} (h : YyS py b2 s2 A) (hb : Below A.heap.size A C) : YyS py b2 s2 C := by
  obtain ⟨⟨bm, a, cap, h1⟩, h2⟩ := h
  exact ⟨⟨bm, a, cap, h1.after hb⟩, h2.after hb⟩
theorem YyS.turn {py b2 s2 : Nat} {A C : World} {bs : List Nat} (h : YyS py b2 s2 A) (t : Turn bs A C) (hb : ∀ q ∈ bs, Bx A q) (h1 : py ∉ bs) (h2 : b2 ∉ bs) (h3 : s2 ∉ bs) : YyS py b2 s2 C := by
  obtain ⟨⟨bm, a, cap, k1⟩, k2⟩ := h
  exact ⟨⟨bm, a, cap, k1.turn2 t hb h1⟩, k2.turn t h2 h3⟩
theorem BkS.bxs {W : World} {p b s i m : Nat} {L : List EnP} {A : World} (h : BkS W p b s i m L A) : ∀ q ∈ [p, b], Bx A q := fun q hq => by
  obtain ⟨⟨bm, a, cap, E, h1, _⟩, _, _, h4, _⟩ := h
  rcases List.mem_cons.1 hq with rfl | hq
  · exact .inl h1.box
  · rw [List.mem_singleton.1 hq]; exact .inr h4

end Go.Proofs.YtpinhomalmknjaaDoor
/- The document's ledger: Sum; the law's number. -/
namespace Go.Proofs.YtpinhomalmknjaaDoor
open Go.RowKit Go.Sort Go.Shelf
set_option linter.unusedVariables false
set_option linter.unusedSimpArgs false
set_option maxRecDepth 100000

theorem intE_yes' {z : Int} (h : fitsI z = true) : intE z = .tuple #[.int .i64 z, .bool true] := by
  unfold intE
  rw [if_pos (by unfold fitsI at h; simpa using h)]
theorem intE_no' {z : Int} (h : fitsI z = false) : intE z = .tuple #[.int .i64 0, .bool false] := by
  unfold intE
  rw [if_neg (by unfold fitsI at h; simpa using h)]
theorem lnsQ_not {q : Six → Bool} {party : Int} {s : Six} {ls : List Ln} (h : q s = false) : lnsQ q party s ls = [] := by
  unfold lnsQ
  rw [List.filter_eq_nil_iff.2 fun l _ => by rw [h, Bool.and_false]; decide]
  rfl
theorem lnsQ_take {q : Six → Bool} {party : Int} {s : Six} {ls : List Ln} {j : Nat} (hj : j < ls.length) (h : q s = true) : lnsQ q party s (ls.take (j + 1)) = lnsQ q party s (ls.take j) ++ if (Ln.at ls j).p = party then [(Ln.at ls j).a] else [] := by
  rw [List.take_succ_eq_append_getElem hj, lnsQ_snoc, h, Bool.and_true]
  have : ls[j] = Ln.at ls j := by unfold Ln.at; rw [List.getD_eq_getElem?_getD, List.getElem?_eq_getElem hj]; rfl
  rw [this]
  by_cases hp : (Ln.at ls j).p = party
  · rw [if_pos hp, decide_eq_true hp, if_pos rfl]
  · rw [if_neg hp, decide_eq_false hp, if_neg (by decide)]
theorem sumQ_take {q : Six → Bool} {party : Int} {E : List En} {k : Nat} (h : k < E.length) : sumQ q party ((E.take (k + 1)).map En.p) = sumQ q party ((E.take k).map En.p) ++ lnsQ q party (En.at E k).s (En.at E k).ls := by
  rw [take_at h, List.map_append, List.map_singleton, sumQ_snoc]
  rfl
def SumREnd (w : World) (z : Int) (e : Ending) (w' : World) : Prop := e = .returned (intE z) ∧ Below w.heap.size w w'
set_option maxHeartbeats 16000000 in
theorem rsum_bal (qa : Nat) (a : Option Addr) (cap : Nat) (E : List En) (party cur seq : Int) (hc0 : 0 ≤ cur) (hs0 : 0 ≤ seq) (q : Six → Bool) (hq : q = qBal cur seq) (w : World) (h : RqAt w qa a cap E) (hl : E.length ≤ 1000) (hf : ∀ e ∈ E, e.ls.length ≤ 100) :
    Calls Tryd.prog 18 #[.pointer (some ⟨qa, 0, none⟩), .int .i64 party, .int .i64 cur, .int .i64 seq, .int .i64 (-1), .agg #[.int .i64 (-1), .int .i64 (-1), .int .i64 (-1)]] w (SumREnd w (sumQ q party (E.map En.p)).sum) := by
  obtain ⟨i0, hi, hz0, hz1, hz2⟩ := info_parts infoInt2
  have HQq := Lib.hid hq
  clear hq
  obtain ⟨w1, hw1⟩ : ∃ V, w.alloc (.cells #[.int .i64 (-1), .int .i64 (-1), .int .i64 (-1)] 45) = V := ⟨_, rfl⟩
  have hb1 : Below w.heap.size w w1 := by rw [← hw1]; exact (Below.refl _ _).alloc (Nat.le_refl _) _
  have hk1 : Blk w1 w.heap.size #[.int .i64 (-1), .int .i64 (-1), .int .i64 (-1)] 45 := by rw [← hw1]; exact Blk.new _ _ _
  have HB1 := Lib.hid hb1
  have HT1 := Lib.hid hk1
  have H := Lib.hid h
  have HW1 := Lib.hid hw1
  have HLn := Lib.hid (fun k => sumQ_len q party ((E.take k).map En.p) (fun e he => by
    obtain ⟨x, hx, rfl⟩ := List.mem_map.1 he
    exact hf x (List.mem_of_mem_take hx)))
  have HWf := Lib.hid (sumQ_wf q party (E.map En.p) (fun e he => by
    obtain ⟨x, hx, rfl⟩ := List.mem_map.1 he
    exact (h.ok x hx).wf))
  have HFw := Lib.hid hf
  have c0 : w1.cell? ⟨qa, 0, none⟩ = some (.slice a E.length cap) := (h.after hb1).blk.cell 0 rfl
  clear hw1 hb1 hk1 h hf
  go_enter Tryd.func18, Tryd.ntmps18
  go_wp2_with fail
  rw [HW1.out]
  clear HW1 c0
  go_loopw [14, 15] (fun v i wr => ∃ k : Nat, k ≤ E.length ∧ i = .int .i64 k ∧ wr.ownsRow w1.heap.size 3 1 v (sumQ q party ((E.take k).map En.p)).length (intsV (sumQ q party ((E.take k).map En.p))) ∧ Below w1.heap.size w1 wr) (fun _ i _ => E.length - (intOf i).toNat)
  case atStart => exact ⟨0, by omega, rfl, World.ownsRow_nil _ _ _ _, Below.refl _ _⟩
  case round =>
    obtain ⟨k, hk, rfl, hown, hbl⟩ := hrel
    have hQr := H.out.after (HB1.out.trans (hbl.mono HB1.out.size))
    have c0 : wr.cell? ⟨qa, 0, none⟩ = some (.slice a E.length cap) := hQr.blk.cell 0 rfl
    by_cases hlt : k < E.length
    · obtain ⟨b, o, rfl, hbb, hcs⟩ := hQr.sl.at7 (by omega)
      have hcell := hcs k hlt
      have hE := H.out.ok _ (at_memE hlt)
      have hf := HFw.out _ (at_memE hlt)
      have hlen := HLn.out k
      have HK : Hid (sumQ q party ((E.take (k + 1)).map En.p) = sumQ q party ((E.take k).map En.p) ++ lnsQ q party (En.at E k).s (En.at E k).ls) := sumQ_take hlt
      obtain ⟨X, hEE⟩ : ∃ X, En.at E k = X := ⟨_, rfl⟩
      rw [hEE] at hcell hE HK hf
      clear hcs hEE hQr
      obtain ⟨⟨con, day, cu, sq, pr, ref⟩, ea, ecap, els⟩ := X
      obtain ⟨e0, e1, e2, e3, e4, e5, e6⟩ := hcell
      simp only at e0 e1 e2 e3 e4 e5 e6 HK hf
      have HE := Lib.hid hE
      obtain ⟨K, hKK⟩ : ∃ K, sumQ q party ((E.take k).map En.p) = K := ⟨_, rfl⟩
      rw [hKK] at hown hlen HK
      have hlen' : K.length ≤ 100000 := by simp only [List.length_map, List.length_take] at hlen; omega
      obtain ⟨w5, hw5⟩ : ∃ V, wr.alloc (.cells #[.int .i64 con, .int .i64 day, .int .i64 cu, .int .i64 sq, .int .i64 pr, .int .i64 ref, .slice ea els.length ecap] 90) = V := ⟨_, rfl⟩
      obtain ⟨B5, hB5⟩ : ∃ n, wr.heap.size = n := ⟨_, rfl⟩
      have hb5 : Below wr.heap.size wr w5 := by rw [← hw5]; exact (Below.refl _ _).alloc (Nat.le_refl _) _
      have hk5 : Blk w5 B5 #[.int .i64 con, .int .i64 day, .int .i64 cu, .int .i64 sq, .int .i64 pr, .int .i64 ref, .slice ea els.length ecap] 90 := by rw [← hw5, ← hB5]; exact Blk.new _ _ _
      have HOw := Lib.hid (own_after hown hb5)
      have HB5 := Lib.hid (hbl.trans (hb5.mono hbl.size))
      have HK5 := Lib.hid hk5
      have HBe := Lib.hid hB5
      have HW5 := Lib.hid hw5
      have i1 : (0 : Int) ≤ (k : Int) := by omega
      have i2 : (k : Int) < (E.length : Int) := by omega
      have hbl1 := hbl
      have b0 : wr.cell? ⟨w.heap.size, 0, none⟩ = some (.int .i64 (-1)) := (HT1.out.after hbl1).cell 0 rfl
      have b1 : wr.cell? ⟨w.heap.size, 1, none⟩ = some (.int .i64 (-1)) := (HT1.out.after hbl1).cell 1 rfl
      have b2 : wr.cell? ⟨w.heap.size, 2, none⟩ = some (.int .i64 (-1)) := (HT1.out.after hbl1).cell 2 rfl
      have htl : w.heap.size < wr.heap.size := (HT1.out.after hbl1).lt
      clear hKK hE hlen hown hbl hw5 hB5 hb5 hbl1
      clear hk5
      by_cases h1 : cu = cur
      case neg =>
        have g1 : (cu != cur) = true := by rw [bne_iff_ne]; exact h1
        have g2 : decide (0 ≤ cur) = true := decide_eq_true hc0
        have HT : Hid (sumQ q party ((E.take (k + 1)).map En.p) = K) := by show _ = _; rw [HK.out, lnsQ_not (by rw [HQq.out]; unfold qBal; dsimp only; rw [decide_eq_false h1]; rfl), List.append_nil]
        go_wp2_with fail
        clear b0 b1 b2 e0 e1 e2 e3 e4 e5 e6 c0
        rw [HW5.out]
        go_roundw
        case rel => exact ⟨k + 1, by omega, by go_num, by rw [HT.out]; exact HOw.out, HB5.out⟩
        case measure => simp [intOf]; omega
      case pos =>
        subst h1
        have g1 : (cu != cu) = false := by simp
        have g2 : decide (0 ≤ cu) = true := decide_eq_true hc0
        have g3 : decide (0 ≤ seq) = true := decide_eq_true hs0
        by_cases h2 : sq ≤ seq
        · have g4 : decide (seq < sq) = false := decide_eq_false (by omega)
          have HQs : Hid (q ⟨con, day, cu, sq, pr, ref⟩ = true) := by show q _ = true; rw [HQq.out]; unfold qBal; dsimp only; rw [decide_eq_true rfl, decide_eq_true h2]; rfl
          go_wp2_with fail
          clear b0 b1 b2 e0 e1 e2 e3 e4 e5 e6 c0
          rw [HW5.out]
          try rw [HBe.out]
          go_loopw [14, 17] (fun v i wi => ∃ j : Nat, j ≤ els.length ∧ i = .int .i64 j ∧ wi.ownsRow w1.heap.size 3 1 v (K ++ lnsQ q party ⟨con, day, cu, sq, pr, ref⟩ (els.take j)).length (intsV (K ++ lnsQ q party ⟨con, day, cu, sq, pr, ref⟩ (els.take j))) ∧ Blk wi B5 #[.int .i64 con, .int .i64 day, .int .i64 cu, .int .i64 sq, .int .i64 pr, .int .i64 ref, .slice ea els.length ecap] 90 ∧ Below w1.heap.size w1 wi) (fun _ i _ => els.length - (intOf i).toNat)
          case atStart => exact ⟨0, by omega, rfl, by simpa [lnsQ] using HOw.out, HK5.out, HB5.out⟩
          case round =>
            obtain ⟨j, hj, rfl, hown2, hbk, hbl2⟩ := hrel
            have c6 : wr.cell? ⟨B5, 6, none⟩ = some (.slice ea els.length ecap) := hbk.cell 6 rfl
            by_cases hlt2 : j < els.length
            · obtain ⟨b2, o2, ea', hc⟩ := (HE.out.ln.after (HB1.out.trans (hbl2.mono HB1.out.size))) (by show 0 < els.length; omega)
              obtain rfl : ea = some ⟨b2, o2, none⟩ := ea'
              have hlk : (lnsQ q party ⟨con, day, cu, sq, pr, ref⟩ (els.take j)).length ≤ 100 := Nat.le_trans (lnsQ_len _ _ _ _) (by rw [List.length_take]; omega)
              have hy := lnsQ_take (party := party) hlt2 HQs.out
              obtain ⟨d0, d1, d2⟩ := hc j hlt2
              simp only at d0 d1 d2
              obtain ⟨⟨lp, lc, la⟩, hLL⟩ : ∃ L, Ln.at els j = L := ⟨_, rfl⟩
              rw [hLL] at d0 d1 d2 hy
              simp only at d0 d1 d2 hy
              have HY := Lib.hid hy
              have j1 : (0 : Int) ≤ (j : Int) := by omega
              have j2 : (j : Int) < (els.length : Int) := by omega
              clear hc hLL hy
              obtain ⟨L, hL⟩ : ∃ L, K ++ lnsQ q party ⟨con, day, cu, sq, pr, ref⟩ (els.take j) = L := ⟨_, rfl⟩
              have hLn : L.length ≤ 100200 := by rw [← hL, List.length_append]; omega
              have HLn := Lib.hid hL
              rw [hL] at hown2
              clear hL hlk
              by_cases hp : lp = party
              · have HL2 : Hid (K ++ lnsQ q party ⟨con, day, cu, sq, pr, ref⟩ (els.take (j + 1)) = L ++ [la]) := by show _ = _; rw [HY.out, if_pos hp, ← List.append_assoc, HLn.out]
                have hp' : (lp == party) = true := by rw [beq_iff_eq]; exact hp
                clear hp
                go_wp2_with (at_builtin; refine wpList_append_own _ rfl _ _ 57 rfl w1.heap.size 3 i0 (.int .i64 0) 1 8 Tryd.underlying57 hi hz0 hz1 hz2 rfl (by decide) _ _ _ rfl (hown2.alloc _) ⟨wr.heap.size, 0, none⟩ 1 1 [.int .i64 la] rfl rfl (by have := news_one wr (.int .i64 la) 3; simpa using this) (by simp [Value.oneCell']) (by unfold maxLen; omega) (by omega) (by have := hbl2.size; simp; omega) ?_; intro v' w2 hown' hgrow hgt)
                have hb3 : Below w1.heap.size w1 w2 := (hbl2.alloc hbl2.size _).grown hgrow (by have := hbl2.size; simp; omega) (fun q e => by have := (hown2.lt q e).1; omega)
                have hk3 := (hbk.after ((Below.refl wr.heap.size wr).alloc (Nat.le_refl _) (.cells #[.int .i64 la] 3))).grown hgrow (hbk.own_ne hown2 (by decide))
                rw [← intsV_snoc] at hown'
                go_roundw
                case rel => exact ⟨j + 1, by omega, by go_num, by rw [HL2.out, List.length_append]; exact hown', hk3, hb3⟩
                case measure => simp [intOf]; omega
              · have HL2 : Hid (K ++ lnsQ q party ⟨con, day, cu, sq, pr, ref⟩ (els.take (j + 1)) = L) := by show _ = _; rw [HY.out, if_neg hp, List.append_nil, HLn.out]
                have hp' : (lp == party) = false := by rw [beq_eq_false_iff_ne]; exact hp
                clear hp
                go_wp2_with fail
                go_roundw
                case rel => exact ⟨j + 1, by omega, by go_num, by rw [HL2.out]; exact hown2, hbk, hbl2⟩
                case measure => simp [intOf]; omega
            · obtain rfl : j = els.length := by omega
              rw [List.take_length] at hown2
              have HOw2 := Lib.hid hown2
              have HB2 := Lib.hid hbl2
              clear hown2 hbl2 hbk
              go_wp2_with fail
              go_roundw
              case rel => exact ⟨k + 1, by omega, by go_num, by rw [HK.out]; exact HOw2.out, HB2.out⟩
              case measure => simp [intOf]; omega
        · have g4 : decide (seq < sq) = true := decide_eq_true (by omega)
          have HT : Hid (sumQ q party ((E.take (k + 1)).map En.p) = K) := by show _ = _; rw [HK.out, lnsQ_not (by rw [HQq.out]; unfold qBal; dsimp only; rw [decide_eq_false h2, Bool.and_false]), List.append_nil]
          go_wp2_with fail
          clear b0 b1 b2 e0 e1 e2 e3 e4 e5 e6 c0
          rw [HW5.out]
          go_roundw
          case rel => exact ⟨k + 1, by omega, by go_num, by rw [HT.out]; exact HOw.out, HB5.out⟩
          case measure => simp [intOf]; omega
    · obtain rfl : k = E.length := by omega
      rw [List.take_length] at hown
      obtain ⟨c, capc, rfl, hcl, _, _, _, _, hrow⟩ := owned_ints hown
      have hlen := HLn.out E.length
      rw [List.take_length] at hlen
      have hsum := sum_big c capc (sumQ q party (E.map En.p)) wr hrow HWf.out (by simp only [List.length_map] at hlen; omega)
      obtain ⟨S, hS⟩ : ∃ S, (sumQ q party (E.map En.p)).sum = S := ⟨_, rfl⟩
      rw [hS] at hsum
      have HC := Lib.hid hsum
      have HSS := Lib.hid hS
      have HBw := Lib.hid (HB1.out.trans (hbl.mono HB1.out.size))
      clear hsum hrow hown hcl hS hlen hbl
      go_wp2_with fail
      with_reducible refine HC.out.mono ?_
      rintro e w2 ⟨sg, ab, lb, cb, rfl, hbig, hb2, _⟩
      have hend2 : Below w.heap.size w w2 := HBw.out.trans (hb2.mono HBw.out.size)
      cases hf : fitsI S
      · have HNO := Lib.hid (int_no S sg ab lb cb w2 hbig hf)
        have HQ := Lib.hid (intE_no' hf)
        clear hbig hf
        go_wp2_with fail
        with_reducible refine HNO.out.mono ?_
        rintro e w3 ⟨rfl, hb3⟩
        go_wp2_with fail
        go_ret2
        exact ⟨by rw [HSS.out, HQ.out]; rfl, hend2.trans (hb3.mono hend2.size)⟩
      · have HYES := Lib.hid (int_yes S sg ab lb cb w2 hbig hf)
        have HQ := Lib.hid (intE_yes' hf)
        clear hbig hf
        go_wp2_with fail
        with_reducible refine HYES.out.mono ?_
        rintro e w3 ⟨rfl, hb3⟩
        go_wp2_with fail
        go_ret2
        exact ⟨by rw [HSS.out, HQ.out]; rfl, hend2.trans (hb3.mono hend2.size)⟩

set_option maxHeartbeats 16000000 in
theorem rsum_per (qa : Nat) (a : Option Addr) (cap : Nat) (E : List En) (party cur per : Int) (hc0 : 0 ≤ cur) (hs0 : 0 ≤ per) (q : Six → Bool) (hq : q = qPer cur per) (w : World) (h : RqAt w qa a cap E) (hl : E.length ≤ 1000) (hf : ∀ e ∈ E, e.ls.length ≤ 100) :
    Calls Tryd.prog 18 #[.pointer (some ⟨qa, 0, none⟩), .int .i64 party, .int .i64 cur, .int .i64 (-1), .int .i64 per, .agg #[.int .i64 (-1), .int .i64 (-1), .int .i64 (-1)]] w (SumREnd w (sumQ q party (E.map En.p)).sum) := by
  obtain ⟨i0, hi, hz0, hz1, hz2⟩ := info_parts infoInt2
  have HQq := Lib.hid hq
  clear hq
  obtain ⟨w1, hw1⟩ : ∃ V, w.alloc (.cells #[.int .i64 (-1), .int .i64 (-1), .int .i64 (-1)] 45) = V := ⟨_, rfl⟩
  have hb1 : Below w.heap.size w w1 := by rw [← hw1]; exact (Below.refl _ _).alloc (Nat.le_refl _) _
  have hk1 : Blk w1 w.heap.size #[.int .i64 (-1), .int .i64 (-1), .int .i64 (-1)] 45 := by rw [← hw1]; exact Blk.new _ _ _
  have HB1 := Lib.hid hb1
  have HT1 := Lib.hid hk1
  have H := Lib.hid h
  have HW1 := Lib.hid hw1
  have HLn := Lib.hid (fun k => sumQ_len q party ((E.take k).map En.p) (fun e he => by
    obtain ⟨x, hx, rfl⟩ := List.mem_map.1 he
    exact hf x (List.mem_of_mem_take hx)))
  have HWf := Lib.hid (sumQ_wf q party (E.map En.p) (fun e he => by
    obtain ⟨x, hx, rfl⟩ := List.mem_map.1 he
    exact (h.ok x hx).wf))
  have HFw := Lib.hid hf
  have c0 : w1.cell? ⟨qa, 0, none⟩ = some (.slice a E.length cap) := (h.after hb1).blk.cell 0 rfl
  clear hw1 hb1 hk1 h hf
  go_enter Tryd.func18, Tryd.ntmps18
  go_wp2_with fail
  rw [HW1.out]
  clear HW1 c0
  go_loopw [14, 15] (fun v i wr => ∃ k : Nat, k ≤ E.length ∧ i = .int .i64 k ∧ wr.ownsRow w1.heap.size 3 1 v (sumQ q party ((E.take k).map En.p)).length (intsV (sumQ q party ((E.take k).map En.p))) ∧ Below w1.heap.size w1 wr) (fun _ i _ => E.length - (intOf i).toNat)
  case atStart => exact ⟨0, by omega, rfl, World.ownsRow_nil _ _ _ _, Below.refl _ _⟩
  case round =>
    obtain ⟨k, hk, rfl, hown, hbl⟩ := hrel
    have hQr := H.out.after (HB1.out.trans (hbl.mono HB1.out.size))
    have c0 : wr.cell? ⟨qa, 0, none⟩ = some (.slice a E.length cap) := hQr.blk.cell 0 rfl
    by_cases hlt : k < E.length
    · obtain ⟨b, o, rfl, hbb, hcs⟩ := hQr.sl.at7 (by omega)
      have hcell := hcs k hlt
      have hE := H.out.ok _ (at_memE hlt)
      have hf := HFw.out _ (at_memE hlt)
      have hlen := HLn.out k
      have HK : Hid (sumQ q party ((E.take (k + 1)).map En.p) = sumQ q party ((E.take k).map En.p) ++ lnsQ q party (En.at E k).s (En.at E k).ls) := sumQ_take hlt
      obtain ⟨X, hEE⟩ : ∃ X, En.at E k = X := ⟨_, rfl⟩
      rw [hEE] at hcell hE HK hf
      clear hcs hEE hQr
      obtain ⟨⟨con, day, cu, sq, pr, ref⟩, ea, ecap, els⟩ := X
      obtain ⟨e0, e1, e2, e3, e4, e5, e6⟩ := hcell
      simp only at e0 e1 e2 e3 e4 e5 e6 HK hf
      have HE := Lib.hid hE
      obtain ⟨K, hKK⟩ : ∃ K, sumQ q party ((E.take k).map En.p) = K := ⟨_, rfl⟩
      rw [hKK] at hown hlen HK
      have hlen' : K.length ≤ 100000 := by simp only [List.length_map, List.length_take] at hlen; omega
      obtain ⟨w5, hw5⟩ : ∃ V, wr.alloc (.cells #[.int .i64 con, .int .i64 day, .int .i64 cu, .int .i64 sq, .int .i64 pr, .int .i64 ref, .slice ea els.length ecap] 90) = V := ⟨_, rfl⟩
      obtain ⟨B5, hB5⟩ : ∃ n, wr.heap.size = n := ⟨_, rfl⟩
      have hb5 : Below wr.heap.size wr w5 := by rw [← hw5]; exact (Below.refl _ _).alloc (Nat.le_refl _) _
      have hk5 : Blk w5 B5 #[.int .i64 con, .int .i64 day, .int .i64 cu, .int .i64 sq, .int .i64 pr, .int .i64 ref, .slice ea els.length ecap] 90 := by rw [← hw5, ← hB5]; exact Blk.new _ _ _
      have HOw := Lib.hid (own_after hown hb5)
      have HB5 := Lib.hid (hbl.trans (hb5.mono hbl.size))
      have HK5 := Lib.hid hk5
      have HBe := Lib.hid hB5
      have HW5 := Lib.hid hw5
      have i1 : (0 : Int) ≤ (k : Int) := by omega
      have i2 : (k : Int) < (E.length : Int) := by omega
      have hbl1 := hbl
      have b0 : wr.cell? ⟨w.heap.size, 0, none⟩ = some (.int .i64 (-1)) := (HT1.out.after hbl1).cell 0 rfl
      have b1 : wr.cell? ⟨w.heap.size, 1, none⟩ = some (.int .i64 (-1)) := (HT1.out.after hbl1).cell 1 rfl
      have b2 : wr.cell? ⟨w.heap.size, 2, none⟩ = some (.int .i64 (-1)) := (HT1.out.after hbl1).cell 2 rfl
      have htl : w.heap.size < wr.heap.size := (HT1.out.after hbl1).lt
      clear hKK hE hlen hown hbl hw5 hB5 hb5 hbl1
      clear hk5
      by_cases h1 : cu = cur
      case neg =>
        have g1 : (cu != cur) = true := by rw [bne_iff_ne]; exact h1
        have g2 : decide (0 ≤ cur) = true := decide_eq_true hc0
        have HT : Hid (sumQ q party ((E.take (k + 1)).map En.p) = K) := by show _ = _; rw [HK.out, lnsQ_not (by rw [HQq.out]; unfold qPer; dsimp only; rw [decide_eq_false h1]; rfl), List.append_nil]
        go_wp2_with fail
        clear b0 b1 b2 e0 e1 e2 e3 e4 e5 e6 c0
        rw [HW5.out]
        go_roundw
        case rel => exact ⟨k + 1, by omega, by go_num, by rw [HT.out]; exact HOw.out, HB5.out⟩
        case measure => simp [intOf]; omega
      case pos =>
        subst h1
        have g1 : (cu != cu) = false := by simp
        have g2 : decide (0 ≤ cu) = true := decide_eq_true hc0
        have g3 : decide (0 ≤ per) = true := decide_eq_true hs0
        by_cases h2 : pr = per
        · subst h2
          have g4 : (pr != pr) = false := by simp
          have HQs : Hid (q ⟨con, day, cu, sq, pr, ref⟩ = true) := by show q _ = true; rw [HQq.out]; unfold qPer; dsimp only; rw [decide_eq_true rfl, decide_eq_true rfl]; rfl
          go_wp2_with fail
          clear b0 b1 b2 e0 e1 e2 e3 e4 e5 e6 c0
          rw [HW5.out]
          try rw [HBe.out]
          go_loopw [14, 17] (fun v i wi => ∃ j : Nat, j ≤ els.length ∧ i = .int .i64 j ∧ wi.ownsRow w1.heap.size 3 1 v (K ++ lnsQ q party ⟨con, day, cu, sq, pr, ref⟩ (els.take j)).length (intsV (K ++ lnsQ q party ⟨con, day, cu, sq, pr, ref⟩ (els.take j))) ∧ Blk wi B5 #[.int .i64 con, .int .i64 day, .int .i64 cu, .int .i64 sq, .int .i64 pr, .int .i64 ref, .slice ea els.length ecap] 90 ∧ Below w1.heap.size w1 wi) (fun _ i _ => els.length - (intOf i).toNat)
          case atStart => exact ⟨0, by omega, rfl, by simpa [lnsQ] using HOw.out, HK5.out, HB5.out⟩
          case round =>
            obtain ⟨j, hj, rfl, hown2, hbk, hbl2⟩ := hrel
            have c6 : wr.cell? ⟨B5, 6, none⟩ = some (.slice ea els.length ecap) := hbk.cell 6 rfl
            by_cases hlt2 : j < els.length
            · obtain ⟨b2, o2, ea', hc⟩ := (HE.out.ln.after (HB1.out.trans (hbl2.mono HB1.out.size))) (by show 0 < els.length; omega)
              obtain rfl : ea = some ⟨b2, o2, none⟩ := ea'
              have hlk : (lnsQ q party ⟨con, day, cu, sq, pr, ref⟩ (els.take j)).length ≤ 100 := Nat.le_trans (lnsQ_len _ _ _ _) (by rw [List.length_take]; omega)
              have hy := lnsQ_take (party := party) hlt2 HQs.out
              obtain ⟨d0, d1, d2⟩ := hc j hlt2
              simp only at d0 d1 d2
              obtain ⟨⟨lp, lc, la⟩, hLL⟩ : ∃ L, Ln.at els j = L := ⟨_, rfl⟩
              rw [hLL] at d0 d1 d2 hy
              simp only at d0 d1 d2 hy
              have HY := Lib.hid hy
              have j1 : (0 : Int) ≤ (j : Int) := by omega
              have j2 : (j : Int) < (els.length : Int) := by omega
              clear hc hLL hy
              obtain ⟨L, hL⟩ : ∃ L, K ++ lnsQ q party ⟨con, day, cu, sq, pr, ref⟩ (els.take j) = L := ⟨_, rfl⟩
              have hLn : L.length ≤ 100200 := by rw [← hL, List.length_append]; omega
              have HLn := Lib.hid hL
              rw [hL] at hown2
              clear hL hlk
              by_cases hp : lp = party
              · have HL2 : Hid (K ++ lnsQ q party ⟨con, day, cu, sq, pr, ref⟩ (els.take (j + 1)) = L ++ [la]) := by show _ = _; rw [HY.out, if_pos hp, ← List.append_assoc, HLn.out]
                have hp' : (lp == party) = true := by rw [beq_iff_eq]; exact hp
                clear hp
                go_wp2_with (at_builtin; refine wpList_append_own _ rfl _ _ 57 rfl w1.heap.size 3 i0 (.int .i64 0) 1 8 Tryd.underlying57 hi hz0 hz1 hz2 rfl (by decide) _ _ _ rfl (hown2.alloc _) ⟨wr.heap.size, 0, none⟩ 1 1 [.int .i64 la] rfl rfl (by have := news_one wr (.int .i64 la) 3; simpa using this) (by simp [Value.oneCell']) (by unfold maxLen; omega) (by omega) (by have := hbl2.size; simp; omega) ?_; intro v' w2 hown' hgrow hgt)
                have hb3 : Below w1.heap.size w1 w2 := (hbl2.alloc hbl2.size _).grown hgrow (by have := hbl2.size; simp; omega) (fun q e => by have := (hown2.lt q e).1; omega)
                have hk3 := (hbk.after ((Below.refl wr.heap.size wr).alloc (Nat.le_refl _) (.cells #[.int .i64 la] 3))).grown hgrow (hbk.own_ne hown2 (by decide))
                rw [← intsV_snoc] at hown'
                go_roundw
                case rel => exact ⟨j + 1, by omega, by go_num, by rw [HL2.out, List.length_append]; exact hown', hk3, hb3⟩
                case measure => simp [intOf]; omega
              · have HL2 : Hid (K ++ lnsQ q party ⟨con, day, cu, sq, pr, ref⟩ (els.take (j + 1)) = L) := by show _ = _; rw [HY.out, if_neg hp, List.append_nil, HLn.out]
                have hp' : (lp == party) = false := by rw [beq_eq_false_iff_ne]; exact hp
                clear hp
                go_wp2_with fail
                go_roundw
                case rel => exact ⟨j + 1, by omega, by go_num, by rw [HL2.out]; exact hown2, hbk, hbl2⟩
                case measure => simp [intOf]; omega
            · obtain rfl : j = els.length := by omega
              rw [List.take_length] at hown2
              have HOw2 := Lib.hid hown2
              have HB2 := Lib.hid hbl2
              clear hown2 hbl2 hbk
              go_wp2_with fail
              go_roundw
              case rel => exact ⟨k + 1, by omega, by go_num, by rw [HK.out]; exact HOw2.out, HB2.out⟩
              case measure => simp [intOf]; omega
        · have g4 : (pr != per) = true := by rw [bne_iff_ne]; exact h2
          have HT : Hid (sumQ q party ((E.take (k + 1)).map En.p) = K) := by show _ = _; rw [HK.out, lnsQ_not (by rw [HQq.out]; unfold qPer; dsimp only; rw [decide_eq_false h2, Bool.and_false]), List.append_nil]
          go_wp2_with fail
          clear b0 b1 b2 e0 e1 e2 e3 e4 e5 e6 c0
          rw [HW5.out]
          go_roundw
          case rel => exact ⟨k + 1, by omega, by go_num, by rw [HT.out]; exact HOw.out, HB5.out⟩
          case measure => simp [intOf]; omega
    · obtain rfl : k = E.length := by omega
      rw [List.take_length] at hown
      obtain ⟨c, capc, rfl, hcl, _, _, _, _, hrow⟩ := owned_ints hown
      have hlen := HLn.out E.length
      rw [List.take_length] at hlen
      have hsum := sum_big c capc (sumQ q party (E.map En.p)) wr hrow HWf.out (by simp only [List.length_map] at hlen; omega)
      obtain ⟨S, hS⟩ : ∃ S, (sumQ q party (E.map En.p)).sum = S := ⟨_, rfl⟩
      rw [hS] at hsum
      have HC := Lib.hid hsum
      have HSS := Lib.hid hS
      have HBw := Lib.hid (HB1.out.trans (hbl.mono HB1.out.size))
      clear hsum hrow hown hcl hS hlen hbl
      go_wp2_with fail
      with_reducible refine HC.out.mono ?_
      rintro e w2 ⟨sg, ab, lb, cb, rfl, hbig, hb2, _⟩
      have hend2 : Below w.heap.size w w2 := HBw.out.trans (hb2.mono HBw.out.size)
      cases hf : fitsI S
      · have HNO := Lib.hid (int_no S sg ab lb cb w2 hbig hf)
        have HQ := Lib.hid (intE_no' hf)
        clear hbig hf
        go_wp2_with fail
        with_reducible refine HNO.out.mono ?_
        rintro e w3 ⟨rfl, hb3⟩
        go_wp2_with fail
        go_ret2
        exact ⟨by rw [HSS.out, HQ.out]; rfl, hend2.trans (hb3.mono hend2.size)⟩
      · have HYES := Lib.hid (int_yes S sg ab lb cb w2 hbig hf)
        have HQ := Lib.hid (intE_yes' hf)
        clear hbig hf
        go_wp2_with fail
        with_reducible refine HYES.out.mono ?_
        rintro e w3 ⟨rfl, hb3⟩
        go_wp2_with fail
        go_ret2
        exact ⟨by rw [HSS.out, HQ.out]; rfl, hend2.trans (hb3.mono hend2.size)⟩
set_option maxHeartbeats 16000000 in
theorem rsum_tag (qa : Nat) (a : Option Addr) (cap : Nat) (E : List En) (party t0 t1 t2 : Int) (hc0 : 0 ≤ t0) (q : Six → Bool) (hq : q = qTag ⟨t0, t1, t2⟩) (w : World) (h : RqAt w qa a cap E) (hl : E.length ≤ 1000) (hf : ∀ e ∈ E, e.ls.length ≤ 100) :
    Calls Tryd.prog 18 #[.pointer (some ⟨qa, 0, none⟩), .int .i64 party, .int .i64 (-1), .int .i64 (-1), .int .i64 (-1), .agg #[.int .i64 t0, .int .i64 t1, .int .i64 t2]] w (SumREnd w (sumQ q party (E.map En.p)).sum) := by
  obtain ⟨i0, hi, hz0, hz1, hz2⟩ := info_parts infoInt2
  have HQq := Lib.hid hq
  clear hq
  obtain ⟨w1, hw1⟩ : ∃ V, w.alloc (.cells #[.int .i64 (t0), .int .i64 (t1), .int .i64 (t2)] 45) = V := ⟨_, rfl⟩
  have hb1 : Below w.heap.size w w1 := by rw [← hw1]; exact (Below.refl _ _).alloc (Nat.le_refl _) _
  have hk1 : Blk w1 w.heap.size #[.int .i64 (t0), .int .i64 (t1), .int .i64 (t2)] 45 := by rw [← hw1]; exact Blk.new _ _ _
  have HB1 := Lib.hid hb1
  have HT1 := Lib.hid hk1
  have H := Lib.hid h
  have HW1 := Lib.hid hw1
  have HLn := Lib.hid (fun k => sumQ_len q party ((E.take k).map En.p) (fun e he => by
    obtain ⟨x, hx, rfl⟩ := List.mem_map.1 he
    exact hf x (List.mem_of_mem_take hx)))
  have HWf := Lib.hid (sumQ_wf q party (E.map En.p) (fun e he => by
    obtain ⟨x, hx, rfl⟩ := List.mem_map.1 he
    exact (h.ok x hx).wf))
  have HFw := Lib.hid hf
  have c0 : w1.cell? ⟨qa, 0, none⟩ = some (.slice a E.length cap) := (h.after hb1).blk.cell 0 rfl
  clear hw1 hb1 hk1 h hf
  go_enter Tryd.func18, Tryd.ntmps18
  go_wp2_with fail
  rw [HW1.out]
  clear HW1 c0
  go_loopw [14, 15] (fun v i wr => ∃ k : Nat, k ≤ E.length ∧ i = .int .i64 k ∧ wr.ownsRow w1.heap.size 3 1 v (sumQ q party ((E.take k).map En.p)).length (intsV (sumQ q party ((E.take k).map En.p))) ∧ Below w1.heap.size w1 wr) (fun _ i _ => E.length - (intOf i).toNat)
  case atStart => exact ⟨0, by omega, rfl, World.ownsRow_nil _ _ _ _, Below.refl _ _⟩
  case round =>
    obtain ⟨k, hk, rfl, hown, hbl⟩ := hrel
    have hQr := H.out.after (HB1.out.trans (hbl.mono HB1.out.size))
    have c0 : wr.cell? ⟨qa, 0, none⟩ = some (.slice a E.length cap) := hQr.blk.cell 0 rfl
    by_cases hlt : k < E.length
    · obtain ⟨b, o, rfl, hbb, hcs⟩ := hQr.sl.at7 (by omega)
      have hcell := hcs k hlt
      have hE := H.out.ok _ (at_memE hlt)
      have hf := HFw.out _ (at_memE hlt)
      have hlen := HLn.out k
      have HK : Hid (sumQ q party ((E.take (k + 1)).map En.p) = sumQ q party ((E.take k).map En.p) ++ lnsQ q party (En.at E k).s (En.at E k).ls) := sumQ_take hlt
      obtain ⟨X, hEE⟩ : ∃ X, En.at E k = X := ⟨_, rfl⟩
      rw [hEE] at hcell hE HK hf
      clear hcs hEE hQr
      obtain ⟨⟨con, day, cu, sq, pr, ref⟩, ea, ecap, els⟩ := X
      obtain ⟨e0, e1, e2, e3, e4, e5, e6⟩ := hcell
      simp only at e0 e1 e2 e3 e4 e5 e6 HK hf
      have HE := Lib.hid hE
      obtain ⟨K, hKK⟩ : ∃ K, sumQ q party ((E.take k).map En.p) = K := ⟨_, rfl⟩
      rw [hKK] at hown hlen HK
      have hlen' : K.length ≤ 100000 := by simp only [List.length_map, List.length_take] at hlen; omega
      obtain ⟨w5, hw5⟩ : ∃ V, wr.alloc (.cells #[.int .i64 con, .int .i64 day, .int .i64 cu, .int .i64 sq, .int .i64 pr, .int .i64 ref, .slice ea els.length ecap] 90) = V := ⟨_, rfl⟩
      obtain ⟨B5, hB5⟩ : ∃ n, wr.heap.size = n := ⟨_, rfl⟩
      have hb5 : Below wr.heap.size wr w5 := by rw [← hw5]; exact (Below.refl _ _).alloc (Nat.le_refl _) _
      have hk5 : Blk w5 B5 #[.int .i64 con, .int .i64 day, .int .i64 cu, .int .i64 sq, .int .i64 pr, .int .i64 ref, .slice ea els.length ecap] 90 := by rw [← hw5, ← hB5]; exact Blk.new _ _ _
      have HOw := Lib.hid (own_after hown hb5)
      have HB5 := Lib.hid (hbl.trans (hb5.mono hbl.size))
      have HK5 := Lib.hid hk5
      have HBe := Lib.hid hB5
      have HW5 := Lib.hid hw5
      have i1 : (0 : Int) ≤ (k : Int) := by omega
      have i2 : (k : Int) < (E.length : Int) := by omega
      have hbl1 := hbl
      have b0 : wr.cell? ⟨w.heap.size, 0, none⟩ = some (.int .i64 (t0)) := (HT1.out.after hbl1).cell 0 rfl
      have b1 : wr.cell? ⟨w.heap.size, 1, none⟩ = some (.int .i64 (t1)) := (HT1.out.after hbl1).cell 1 rfl
      have b2 : wr.cell? ⟨w.heap.size, 2, none⟩ = some (.int .i64 (t2)) := (HT1.out.after hbl1).cell 2 rfl
      have htl : w.heap.size < wr.heap.size := (HT1.out.after hbl1).lt
      clear hKK hE hlen hown hbl hw5 hB5 hb5 hbl1
      clear hk5
      have g0 : decide (0 ≤ t0) = true := decide_eq_true hc0
      by_cases h1 : con = t0
      case neg =>
        have g1 : (con != t0) = true := by rw [bne_iff_ne]; exact h1
        have HT : Hid (sumQ q party ((E.take (k + 1)).map En.p) = K) := by show _ = _; rw [HK.out, lnsQ_not (by rw [HQq.out]; unfold qTag Six.tag; dsimp only; rw [decide_eq_false (fun h => h1 (by cases h; rfl))]), List.append_nil]
        go_wp2_with fail
        clear b0 b1 b2 e0 e1 e2 e3 e4 e5 e6 c0
        rw [HW5.out]
        go_roundw
        case rel => exact ⟨k + 1, by omega, by go_num, by rw [HT.out]; exact HOw.out, HB5.out⟩
        case measure => simp [intOf]; omega
      case pos =>
        subst h1
        have g1 : (con != con) = false := by simp
        by_cases h2 : day = t1
        case neg =>
          have g2 : (day != t1) = true := by rw [bne_iff_ne]; exact h2
          have HT : Hid (sumQ q party ((E.take (k + 1)).map En.p) = K) := by show _ = _; rw [HK.out, lnsQ_not (by rw [HQq.out]; unfold qTag Six.tag; dsimp only; rw [decide_eq_false (fun h => h2 (by cases h; rfl))]), List.append_nil]
          go_wp2_with fail
          clear b0 b1 b2 e0 e1 e2 e3 e4 e5 e6 c0
          rw [HW5.out]
          go_roundw
          case rel => exact ⟨k + 1, by omega, by go_num, by rw [HT.out]; exact HOw.out, HB5.out⟩
          case measure => simp [intOf]; omega
        case pos =>
          subst h2
          have g2 : (day != day) = false := by simp
          by_cases h3 : cu = t2
          · subst h3
            have g3 : (cu != cu) = false := by simp
            have HQs : Hid (q ⟨con, day, cu, sq, pr, ref⟩ = true) := by show q _ = true; rw [HQq.out]; unfold qTag Six.tag; dsimp only; exact decide_eq_true rfl
            go_wp2_with fail
            clear b0 b1 b2 e0 e1 e2 e3 e4 e5 e6 c0
            rw [HW5.out]
            try rw [HBe.out]
            go_loopw [14, 17] (fun v i wi => ∃ j : Nat, j ≤ els.length ∧ i = .int .i64 j ∧ wi.ownsRow w1.heap.size 3 1 v (K ++ lnsQ q party ⟨con, day, cu, sq, pr, ref⟩ (els.take j)).length (intsV (K ++ lnsQ q party ⟨con, day, cu, sq, pr, ref⟩ (els.take j))) ∧ Blk wi B5 #[.int .i64 con, .int .i64 day, .int .i64 cu, .int .i64 sq, .int .i64 pr, .int .i64 ref, .slice ea els.length ecap] 90 ∧ Below w1.heap.size w1 wi) (fun _ i _ => els.length - (intOf i).toNat)
            case atStart => exact ⟨0, by omega, rfl, by simpa [lnsQ] using HOw.out, HK5.out, HB5.out⟩
            case round =>
              obtain ⟨j, hj, rfl, hown2, hbk, hbl2⟩ := hrel
              have c6 : wr.cell? ⟨B5, 6, none⟩ = some (.slice ea els.length ecap) := hbk.cell 6 rfl
              by_cases hlt2 : j < els.length
              · obtain ⟨b2, o2, ea', hc⟩ := (HE.out.ln.after (HB1.out.trans (hbl2.mono HB1.out.size))) (by show 0 < els.length; omega)
                obtain rfl : ea = some ⟨b2, o2, none⟩ := ea'
                have hlk : (lnsQ q party ⟨con, day, cu, sq, pr, ref⟩ (els.take j)).length ≤ 100 := Nat.le_trans (lnsQ_len _ _ _ _) (by rw [List.length_take]; omega)
                have hy := lnsQ_take (party := party) hlt2 HQs.out
                obtain ⟨d0, d1, d2⟩ := hc j hlt2
                simp only at d0 d1 d2
                obtain ⟨⟨lp, lc, la⟩, hLL⟩ : ∃ L, Ln.at els j = L := ⟨_, rfl⟩
                rw [hLL] at d0 d1 d2 hy
                simp only at d0 d1 d2 hy
                have HY := Lib.hid hy
                have j1 : (0 : Int) ≤ (j : Int) := by omega
                have j2 : (j : Int) < (els.length : Int) := by omega
                clear hc hLL hy
                obtain ⟨L, hL⟩ : ∃ L, K ++ lnsQ q party ⟨con, day, cu, sq, pr, ref⟩ (els.take j) = L := ⟨_, rfl⟩
                have hLn : L.length ≤ 100200 := by rw [← hL, List.length_append]; omega
                have HLn := Lib.hid hL
                rw [hL] at hown2
                clear hL hlk
                by_cases hp : lp = party
                · have HL2 : Hid (K ++ lnsQ q party ⟨con, day, cu, sq, pr, ref⟩ (els.take (j + 1)) = L ++ [la]) := by show _ = _; rw [HY.out, if_pos hp, ← List.append_assoc, HLn.out]
                  have hp' : (lp == party) = true := by rw [beq_iff_eq]; exact hp
                  clear hp
                  go_wp2_with (at_builtin; refine wpList_append_own _ rfl _ _ 57 rfl w1.heap.size 3 i0 (.int .i64 0) 1 8 Tryd.underlying57 hi hz0 hz1 hz2 rfl (by decide) _ _ _ rfl (hown2.alloc _) ⟨wr.heap.size, 0, none⟩ 1 1 [.int .i64 la] rfl rfl (by have := news_one wr (.int .i64 la) 3; simpa using this) (by simp [Value.oneCell']) (by unfold maxLen; omega) (by omega) (by have := hbl2.size; simp; omega) ?_; intro v' w2 hown' hgrow hgt)
                  have hb3 : Below w1.heap.size w1 w2 := (hbl2.alloc hbl2.size _).grown hgrow (by have := hbl2.size; simp; omega) (fun q e => by have := (hown2.lt q e).1; omega)
                  have hk3 := (hbk.after ((Below.refl wr.heap.size wr).alloc (Nat.le_refl _) (.cells #[.int .i64 la] 3))).grown hgrow (hbk.own_ne hown2 (by decide))
                  rw [← intsV_snoc] at hown'
                  go_roundw
                  case rel => exact ⟨j + 1, by omega, by go_num, by rw [HL2.out, List.length_append]; exact hown', hk3, hb3⟩
                  case measure => simp [intOf]; omega
                · have HL2 : Hid (K ++ lnsQ q party ⟨con, day, cu, sq, pr, ref⟩ (els.take (j + 1)) = L) := by show _ = _; rw [HY.out, if_neg hp, List.append_nil, HLn.out]
                  have hp' : (lp == party) = false := by rw [beq_eq_false_iff_ne]; exact hp
                  clear hp
                  go_wp2_with fail
                  go_roundw
                  case rel => exact ⟨j + 1, by omega, by go_num, by rw [HL2.out]; exact hown2, hbk, hbl2⟩
                  case measure => simp [intOf]; omega
              · obtain rfl : j = els.length := by omega
                rw [List.take_length] at hown2
                have HOw2 := Lib.hid hown2
                have HB2 := Lib.hid hbl2
                clear hown2 hbl2 hbk
                go_wp2_with fail
                go_roundw
                case rel => exact ⟨k + 1, by omega, by go_num, by rw [HK.out]; exact HOw2.out, HB2.out⟩
                case measure => simp [intOf]; omega
          · have g3 : (cu != t2) = true := by rw [bne_iff_ne]; exact h3
            have HT : Hid (sumQ q party ((E.take (k + 1)).map En.p) = K) := by show _ = _; rw [HK.out, lnsQ_not (by rw [HQq.out]; unfold qTag Six.tag; dsimp only; rw [decide_eq_false (fun h => h3 (by cases h; rfl))]), List.append_nil]
            go_wp2_with fail
            clear b0 b1 b2 e0 e1 e2 e3 e4 e5 e6 c0
            rw [HW5.out]
            go_roundw
            case rel => exact ⟨k + 1, by omega, by go_num, by rw [HT.out]; exact HOw.out, HB5.out⟩
            case measure => simp [intOf]; omega
    · obtain rfl : k = E.length := by omega
      rw [List.take_length] at hown
      obtain ⟨c, capc, rfl, hcl, _, _, _, _, hrow⟩ := owned_ints hown
      have hlen := HLn.out E.length
      rw [List.take_length] at hlen
      have hsum := sum_big c capc (sumQ q party (E.map En.p)) wr hrow HWf.out (by simp only [List.length_map] at hlen; omega)
      obtain ⟨S, hS⟩ : ∃ S, (sumQ q party (E.map En.p)).sum = S := ⟨_, rfl⟩
      rw [hS] at hsum
      have HC := Lib.hid hsum
      have HSS := Lib.hid hS
      have HBw := Lib.hid (HB1.out.trans (hbl.mono HB1.out.size))
      clear hsum hrow hown hcl hS hlen hbl
      go_wp2_with fail
      with_reducible refine HC.out.mono ?_
      rintro e w2 ⟨sg, ab, lb, cb, rfl, hbig, hb2, _⟩
      have hend2 : Below w.heap.size w w2 := HBw.out.trans (hb2.mono HBw.out.size)
      cases hf : fitsI S
      · have HNO := Lib.hid (int_no S sg ab lb cb w2 hbig hf)
        have HQ := Lib.hid (intE_no' hf)
        clear hbig hf
        go_wp2_with fail
        with_reducible refine HNO.out.mono ?_
        rintro e w3 ⟨rfl, hb3⟩
        go_wp2_with fail
        go_ret2
        exact ⟨by rw [HSS.out, HQ.out]; rfl, hend2.trans (hb3.mono hend2.size)⟩
      · have HYES := Lib.hid (int_yes S sg ab lb cb w2 hbig hf)
        have HQ := Lib.hid (intE_yes' hf)
        clear hbig hf
        go_wp2_with fail
        with_reducible refine HYES.out.mono ?_
        rintro e w3 ⟨rfl, hb3⟩
        go_wp2_with fail
        go_ret2
        exact ⟨by rw [HSS.out, HQ.out]; rfl, hend2.trans (hb3.mono hend2.size)⟩
theorem number_ok (z : Int) (n e want : Int) (is : Bool) (h1 : sumA z = .tuple #[.int .i64 n, .int .i64 e]) (h2 : intE z = .tuple #[.int .i64 want, .bool is]) (w : World) :
    Calls Tryd.prog 19 #[.int .i64 n, .int .i64 e, .int .i64 want, .bool is] w fun e w' => e = .returned (.bool true) ∧ w' = w := by
  cases hf : fitsI z with
  | true =>
    rw [intE_yes' hf] at h2
    unfold sumA at h1
    rw [hf, if_pos rfl] at h1
    simp at h1 h2
    obtain ⟨rfl, rfl⟩ := h1
    obtain ⟨rfl, rfl⟩ := h2
    clear hf
    go_enter Tryd.func19, Tryd.ntmps19
    go_wp2_with fail
    go_ret
    exact ⟨rfl, rfl⟩
  | false =>
    rw [intE_no' hf] at h2
    unfold sumA at h1
    rw [hf, if_neg (by decide)] at h1
    simp at h1 h2
    obtain ⟨rfl, rfl⟩ := h1
    obtain ⟨rfl, rfl⟩ := h2
    clear hf
    go_enter Tryd.func19, Tryd.ntmps19
    go_wp2_with fail
    go_ret
    exact ⟨rfl, rfl⟩
theorem intE_two (z : Int) : ∃ n b, intE z = .tuple #[.int .i64 n, .bool b] := by
  unfold intE
  split <;> exact ⟨_, _, rfl⟩

end Go.Proofs.YtpinhomalmknjaaDoor
