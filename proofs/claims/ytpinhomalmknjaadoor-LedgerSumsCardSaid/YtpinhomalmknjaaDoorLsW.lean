/- What the laid table of rules gives the walks; and that the program's own start meets it. -/
import Derived.Test.YtpinhomalmknjaaDoorEntC
import Derived.Test.YtpinhomalmknjaaDoorTie
import Derived.LaidMore
import Derived.LaidHandle
import Derived.Stop.Joined
import Derived.OpenShut
import Derived.Test.YtpinhomalmknjaaDoorLsO
namespace Go.Proofs.YtpinhomalmknjaaDoor
open Go.ChangeShapes Go.WideShapes Go.ChangeAt Go.RowKit
set_option linter.unusedVariables false
set_option maxRecDepth 100000

theorem gRules : Tryd.prog.globalNamed "chattel/entry.rules" = some 0 := by kernel_rfl
theorem tRules : (Tryd.prog.globals[0]?).map (·.type) = some 118 := by kernel_rfl

theorem rule_of {W : World} {sp : Nat → Bool} {fuel : Nat} {cs : List Value} {b : UInt8} {r : List UInt8} {n : Int} {q : List MemPlace} {f0 : FuncId}
    (hone : ((List.range Tryd.prog.funcs.size).filter fun f => (Tryd.prog.funcs[f]?).any (·.name.toUTF8.data.toList == b :: r)) = [f0])
    (h : DataW.trod (funcToken Tryd.prog) Tryd.prog W 0 sp true fuel 117 cs = some (.agg [.held (b :: r), .lit (.int .i64 n)], q)) :
    cs = [.func (.func f0) #[] #[], .int .i64 n] := by
  obtain ⟨xs, m, _, hx, hlen, hxl, hf⟩ := DataW.trod_struct Tryd.underlying117 h
  simp only [Prod.mk.injEq, DataW.agg.injEq] at hx
  rw [show Tryd.prog.cellsOf 117 = 2 by kernel_rfl] at hlen
  obtain ⟨c0, c1, rfl⟩ : ∃ c0 c1, cs = [c0, c1] := by
    match cs, hlen with
    | [c0, c1], _ => exact ⟨c0, c1, rfl⟩
  obtain ⟨x0, x1, rfl⟩ : ∃ x0 x1, xs = [x0, x1] := by
    have := hx.1
    match xs, this with
    | [x0, x1], _ => exact ⟨x0, x1, rfl⟩
    | [], h => simp at h
    | [_], h => simp at h
    | _ :: _ :: _ :: _, h => simp at h
  obtain ⟨d0, p0⟩ := x0
  obtain ⟨d1, p1⟩ := x1
  simp only [List.map_cons, List.map_nil, List.cons.injEq, and_true] at hx
  obtain ⟨⟨rfl, rfl⟩, _⟩ := hx
  have h0 := hf 0 _ rfl
  have h1 := hf 1 _ rfl
  have g0 : DataW.trod (funcToken Tryd.prog) Tryd.prog W 0 sp true m 29 [c0] = some (.held (b :: r), p0) := by
    rw [← show ([((DataW.held (b :: r) : DataW (List UInt8)), p0), (DataW.lit (.int .i64 n), p1)])[0]? = some (.held (b :: r), p0) from rfl, ← h0]
    rw [show Tryd.prog.cellsOf (Field.type _) = 1 from by kernel_rfl]
    rfl
  have g1 : DataW.trod (funcToken Tryd.prog) Tryd.prog W 0 sp true m 34 [c1] = some (.lit (.int .i64 n), p1) := by
    rw [← show ([((DataW.held (b :: r) : DataW (List UInt8)), p0), (DataW.lit (.int .i64 n), p1)])[1]? = some (.lit (.int .i64 n), p1) from rfl, ← h1]
    rw [show Tryd.prog.cellsOf (Field.type _) = 1 from by kernel_rfl]
    rfl
  obtain rfl := func_of_trod (f0 := f0) Tryd.underlying29 hone g0
  obtain ⟨k, hk, hk2, _⟩ := DataW.trod_int Tryd.underlying34 g1
  simp only [List.cons.injEq, and_true] at hk
  subst hk
  simp only [Prod.mk.injEq, DataW.lit.injEq, Lit.int.injEq, true_and] at hk2
  rw [hk2.1]

theorem of_laid {W : World} (h : laidMetH Tryd.prog [("chattel/entry.rules", Rows.laid_chattel_entry_rules)] W) : RulesAt W := by
  obtain ⟨g, t, cs, fuel, p, hg, ht, hv, hd⟩ := h.funcs (List.mem_singleton.2 rfl)
  obtain rfl := Option.some.inj (gRules.symm.trans hg)
  obtain rfl := Option.some.inj (tRules.symm.trans ht)
  have hd' : DataW.trod (funcToken Tryd.prog) Tryd.prog W 0 (fun _ => true) true fuel 118 cs.toList = some (.agg [.agg [.held [40, 99, 104, 97, 116, 116, 101, 108, 47, 101, 110, 116, 114, 121, 46, 69, 110, 116, 114, 121, 41, 46, 114, 97, 110, 103, 101, 115], .lit (.int .i64 10)], .agg [.held [40, 99, 104, 97, 116, 116, 101, 108, 47, 101, 110, 116, 114, 121, 46, 69, 110, 116, 114, 121, 41, 46, 108, 105, 110, 101, 115], .lit (.int .i64 1)], .agg [.held [40, 99, 104, 97, 116, 116, 101, 108, 47, 101, 110, 116, 114, 121, 46, 69, 110, 116, 114, 121, 41, 46, 115, 111, 109, 101], .lit (.int .i64 12)], .agg [.held [40, 99, 104, 97, 116, 116, 101, 108, 47, 101, 110, 116, 114, 121, 46, 69, 110, 116, 114, 121, 41, 46, 102, 105, 116, 115], .lit (.int .i64 11)], .agg [.held [40, 99, 104, 97, 116, 116, 101, 108, 47, 101, 110, 116, 114, 121, 46, 69, 110, 116, 114, 121, 41, 46, 101, 118, 101, 110], .lit (.int .i64 20)]], p) := hd
  obtain ⟨xs, m, _, hx, hlen, hxl, hel⟩ := DataW.trod_array Tryd.underlying118 hd'
  simp only [Prod.mk.injEq, DataW.agg.injEq] at hx
  rw [show Tryd.prog.cellsOf 118 = 10 by kernel_rfl] at hlen
  rw [show Tryd.prog.cellsOf 117 = 2 by kernel_rfl] at hel
  have hget : ∀ (i : Nat) (d : DataW (List UInt8)), ([.agg [.held [40, 99, 104, 97, 116, 116, 101, 108, 47, 101, 110, 116, 114, 121, 46, 69, 110, 116, 114, 121, 41, 46, 114, 97, 110, 103, 101, 115], .lit (.int .i64 10)], .agg [.held [40, 99, 104, 97, 116, 116, 101, 108, 47, 101, 110, 116, 114, 121, 46, 69, 110, 116, 114, 121, 41, 46, 108, 105, 110, 101, 115], .lit (.int .i64 1)], .agg [.held [40, 99, 104, 97, 116, 116, 101, 108, 47, 101, 110, 116, 114, 121, 46, 69, 110, 116, 114, 121, 41, 46, 115, 111, 109, 101], .lit (.int .i64 12)], .agg [.held [40, 99, 104, 97, 116, 116, 101, 108, 47, 101, 110, 116, 114, 121, 46, 69, 110, 116, 114, 121, 41, 46, 102, 105, 116, 115], .lit (.int .i64 11)], .agg [.held [40, 99, 104, 97, 116, 116, 101, 108, 47, 101, 110, 116, 114, 121, 46, 69, 110, 116, 114, 121, 41, 46, 101, 118, 101, 110], .lit (.int .i64 20)]] : List (DataW (List UInt8)))[i]? = some d → i < 5 → ∃ q, DataW.trod (funcToken Tryd.prog) Tryd.prog W 0 (fun _ => true) true m 117 ((cs.toList.drop (i * 2)).take 2) = some (d, q) := fun i d hi h5 => by
    rw [hx.1, List.getElem?_map] at hi
    obtain ⟨x, hx1, hx2⟩ := Option.map_eq_some_iff.1 hi
    exact ⟨x.2, by rw [hel i h5, hx1, ← hx2]⟩
  obtain ⟨q0, e0⟩ := hget 0 _ rfl (by omega)
  have r0 := rule_of (f0 := 100) (by kernel_rfl) e0
  obtain ⟨q1, e1⟩ := hget 1 _ rfl (by omega)
  have r1 := rule_of (f0 := 101) (by kernel_rfl) e1
  obtain ⟨q2, e2⟩ := hget 2 _ rfl (by omega)
  have r2 := rule_of (f0 := 102) (by kernel_rfl) e2
  obtain ⟨q3, e3⟩ := hget 3 _ rfl (by omega)
  have r3 := rule_of (f0 := 103) (by kernel_rfl) e3
  obtain ⟨q4, e4⟩ := hget 4 _ rfl (by omega)
  have r4 := rule_of (f0 := 96) (by kernel_rfl) e4
  have hc := World.var?_cell hg hv
  have hd2 : ∀ (i : Nat) (c0 c1 : Value), (cs.toList.drop (i * 2)).take 2 = [c0, c1] → cs[i * 2]? = some c0 ∧ cs[i * 2 + 1]? = some c1 := fun i c0 c1 h => by
    have a0 : ((cs.toList.drop (i * 2)).take 2)[0]? = some c0 := by rw [h]; rfl
    have a1 : ((cs.toList.drop (i * 2)).take 2)[1]? = some c1 := by rw [h]; rfl
    rw [List.getElem?_take, if_pos (by omega), List.getElem?_drop] at a0 a1
    exact ⟨by simpa using a0, by simpa using a1⟩
  exact ⟨(hc 0).trans (hd2 0 _ _ r0).1, (hc 1).trans (hd2 0 _ _ r0).2, (hc 2).trans (hd2 1 _ _ r1).1, (hc 3).trans (hd2 1 _ _ r1).2, (hc 4).trans (hd2 2 _ _ r2).1, (hc 5).trans (hd2 2 _ _ r2).2, (hc 6).trans (hd2 3 _ _ r3).1, (hc 7).trans (hd2 3 _ _ r3).2, (hc 8).trans (hd2 4 _ _ r4).1, (hc 9).trans (hd2 4 _ _ r4).2⟩

/-- The program's own start meets the condition. -/
theorem door_met (os : Os) (args : Array Value) : laidMetH Tryd.prog [("chattel/entry.rules", Rows.laid_chattel_entry_rules)] ((World.doorLaid Tryd.prog 600 os).forCall (fun _ _ => 0) ⟨#[], args, []⟩).memory :=
  laidMetH_of_parts3 (fuel := 8) (laidMet_of_run' 8 (by kernel_rfl) (by kernel_rfl)) (by kernel_rfl) (by kernel_rfl)
end Go.Proofs.YtpinhomalmknjaaDoor
/- The statement LedgerSums: its walk. -/
namespace Go.Proofs.YtpinhomalmknjaaDoor
open Go.RowKit Go.Sort Go.Shelf
set_option linter.unusedVariables false
set_option linter.unusedSimpArgs false
set_option maxRecDepth 100000

theorem WL.few {L : List EnP} (h : WL L) {E : List En} (hE : E.map En.p = L) : ∀ e ∈ E, e.ls.length ≤ 100 := fun e he => by
  have := (check_nums (h.ck e.p (by rw [← hE]; exact List.mem_map_of_mem he))).2.2.2.2
  exact Nat.le_trans this (by omega)
theorem BkS.bal {W : World} {p b s i m : Nat} {L : List EnP} {A : World} (h : BkS W p b s i m L A) (hm : m ≤ 900) (party x y n e : Int) (hz : sumA (sumQ (qBal x y) party L).sum = .tuple #[.int .i64 n, .int .i64 e]) :
    Calls Tryd.prog 15 #[.pointer (some ⟨p, 0, none⟩), .int .i64 party, .int .i64 x, .int .i64 y] A fun r w' => r = .returned (.tuple #[.int .i64 n, .int .i64 e]) ∧ Below A.heap.size A w' := by
  obtain ⟨bm, a, cap, E, h1, h2⟩ := h.ex
  have hl : E.length ≤ 1000 := by have h3 := congrArg List.length h2; have := h.len; rw [List.length_map] at h3; omega
  have := lbal_ok p bm a cap E party x y A h1 hl (h.wl.few h2)
  unfold SumEnd at this
  rw [h2, hz] at this
  exact this
theorem BkS.per' {W : World} {p b s i m : Nat} {L : List EnP} {A : World} (h : BkS W p b s i m L A) (hm : m ≤ 900) (party x y n e : Int) (hz : sumA (sumQ (qPer x y) party L).sum = .tuple #[.int .i64 n, .int .i64 e]) :
    Calls Tryd.prog 16 #[.pointer (some ⟨p, 0, none⟩), .int .i64 party, .int .i64 x, .int .i64 y] A fun r w' => r = .returned (.tuple #[.int .i64 n, .int .i64 e]) ∧ Below A.heap.size A w' := by
  obtain ⟨bm, a, cap, E, h1, h2⟩ := h.ex
  have hl : E.length ≤ 1000 := by have h3 := congrArg List.length h2; have := h.len; rw [List.length_map] at h3; omega
  have := lper_ok p bm a cap E party x y A h1 hl (h.wl.few h2)
  unfold SumEnd at this
  rw [h2, hz] at this
  exact this
theorem BkS.tot {W : World} {p b s i m : Nat} {L : List EnP} {A : World} (h : BkS W p b s i m L A) (hm : m ≤ 900) (party t0 t1 t2 n e : Int) (hz : sumA (sumQ (qTag ⟨t0, t1, t2⟩) party L).sum = .tuple #[.int .i64 n, .int .i64 e]) :
    Calls Tryd.prog 17 #[.pointer (some ⟨p, 0, none⟩), .agg #[.int .i64 t0, .int .i64 t1, .int .i64 t2], .int .i64 party] A fun r w' => r = .returned (.tuple #[.int .i64 n, .int .i64 e]) ∧ Below A.heap.size A w' := by
  obtain ⟨bm, a, cap, E, h1, h2⟩ := h.ex
  have hl : E.length ≤ 1000 := by have h3 := congrArg List.length h2; have := h.len; rw [List.length_map] at h3; omega
  have := ltot_ok p bm a cap E party t0 t1 t2 A h1 hl (h.wl.few h2)
  unfold SumEnd at this
  rw [h2, hz] at this
  exact this
/-- Both ledgers, the same. -/
structure BoS (W : World) (p b s i m q : Nat) (L : List EnP) (wr : World) : Prop where
  bk : BkS W p b s i m L wr
  rq : ∃ ra rc R, RqOk wr q ra rc R ∧ R.map En.p = L
theorem BoS.after {W : World} {p b s i m q : Nat} {L : List EnP} {A C : World} (h : BoS W p b s i m q L A) (hb : Below A.heap.size A C) : BoS W p b s i m q L C := by
  obtain ⟨h1, ra, rc, R, h2, h3⟩ := h
  exact ⟨h1.after hb, ra, rc, R, h2.after hb, h3⟩
theorem BoS.rlen {W : World} {p b s i m q : Nat} {L : List EnP} {A : World} (h : BoS W p b s i m q L A) {R : List En} (hR : R.map En.p = L) : R.length ≤ m := by
  have h3 := congrArg List.length hR
  have := h.bk.len
  rw [List.length_map] at h3
  omega
theorem BoS.does {W : World} {p b s i m q : Nat} {L : List EnP} {w : World} (h : BoS W p b s i m q L w) (ha : Apart3 W p b s) (hRu : RulesAt W) (hi : i ≤ 50) (hm : m ≤ 900) (hqW : W.heap.size ≤ q) (hqp : q ≠ p) (hqb : q ≠ b) (hqs : q ≠ s) (op os : Int) (ok : Bool) (oa : Option Addr) (oc : Nat) (X : List En)
    (hx : EnsAt W oa X) (hxl : X.length ≤ 6) (hxw : ∀ x ∈ X, (Lit.int .i64 x.s.ref).wf = true) :
    Calls Tryd.prog 14 #[.pointer (some ⟨p, 0, none⟩), .pointer (some ⟨q, 0, none⟩), .pointer (some ⟨b, 0, none⟩), .agg #[.int .i64 op, .int .i64 os, .bool ok, .slice oa X.length oc]] w fun e w' => e = .returned (.bool true) ∧ ∃ L', BoS W p b s (i + 1) (m + 6) q L' w' := by
  obtain ⟨ra, rc, R, h2, h3⟩ := h.rq
  have hRl := h.rlen h3
  refine (does_ok W p b s i m L q ra rc R op os ok oa oc X w h.bk ha hRu hi hm h2 (by omega) (by rw [h3]; exact h.bk.wl) hqW hqp hqb hqs hx (by omega) hxw).mono ?_
  rintro e w' ⟨r, lk, ra', rc', R', rfl, k1, k2, _, k3⟩
  obtain ⟨rfl, k4⟩ := k3 h3
  exact ⟨rfl, _, k1.more (by omega), ra', rc', R', k2, k4⟩
theorem BoS.rbal {W : World} {p b s i m q : Nat} {L : List EnP} {A : World} (h : BoS W p b s i m q L A) (hm : m ≤ 900) (party x y n : Int) (is : Bool) (hx : 0 ≤ x) (hy : 0 ≤ y) (hz : intE (sumQ (qBal x y) party L).sum = .tuple #[.int .i64 n, .bool is]) :
    Calls Tryd.prog 18 #[.pointer (some ⟨q, 0, none⟩), .int .i64 party, .int .i64 x, .int .i64 y, .int .i64 (-1), .agg #[.int .i64 (-1), .int .i64 (-1), .int .i64 (-1)]] A fun r w' => r = .returned (.tuple #[.int .i64 n, .bool is]) ∧ Below A.heap.size A w' := by
  obtain ⟨ra, rc, R, h2, h3⟩ := h.rq
  have hRl := h.rlen h3
  have := rsum_bal q ra rc R party x y hx hy _ rfl A h2.at' (by omega) (h.bk.wl.few h3)
  unfold SumREnd at this
  rw [h3, hz] at this
  exact this
theorem BoS.rper {W : World} {p b s i m q : Nat} {L : List EnP} {A : World} (h : BoS W p b s i m q L A) (hm : m ≤ 900) (party x y n : Int) (is : Bool) (hx : 0 ≤ x) (hy : 0 ≤ y) (hz : intE (sumQ (qPer x y) party L).sum = .tuple #[.int .i64 n, .bool is]) :
    Calls Tryd.prog 18 #[.pointer (some ⟨q, 0, none⟩), .int .i64 party, .int .i64 x, .int .i64 (-1), .int .i64 y, .agg #[.int .i64 (-1), .int .i64 (-1), .int .i64 (-1)]] A fun r w' => r = .returned (.tuple #[.int .i64 n, .bool is]) ∧ Below A.heap.size A w' := by
  obtain ⟨ra, rc, R, h2, h3⟩ := h.rq
  have hRl := h.rlen h3
  have := rsum_per q ra rc R party x y hx hy _ rfl A h2.at' (by omega) (h.bk.wl.few h3)
  unfold SumREnd at this
  rw [h3, hz] at this
  exact this
theorem BoS.rtag {W : World} {p b s i m q : Nat} {L : List EnP} {A : World} (h : BoS W p b s i m q L A) (hm : m ≤ 900) (party t0 t1 t2 n : Int) (is : Bool) (hx : 0 ≤ t0) (hz : intE (sumQ (qTag ⟨t0, t1, t2⟩) party L).sum = .tuple #[.int .i64 n, .bool is]) :
    Calls Tryd.prog 18 #[.pointer (some ⟨q, 0, none⟩), .int .i64 party, .int .i64 (-1), .int .i64 (-1), .int .i64 (-1), .agg #[.int .i64 t0, .int .i64 t1, .int .i64 t2]] A fun r w' => r = .returned (.tuple #[.int .i64 n, .bool is]) ∧ Below A.heap.size A w' := by
  obtain ⟨ra, rc, R, h2, h3⟩ := h.rq
  have hRl := h.rlen h3
  have := rsum_tag q ra rc R party t0 t1 t2 hx _ rfl A h2.at' (by omega) (h.bk.wl.few h3)
  unfold SumREnd at this
  rw [h3, hz] at this
  exact this

set_option maxHeartbeats 200000000 in
theorem walk_LedgerSums (w : World) (hR : RulesAt w) (a : Option Addr) (cap : Nat) (ops : List Opc) (h : OpsIn w a ops) (hl : ops.length ≤ maxLen) (party : Int) (t : En) (ht : t.ls.length ≤ 9223372036854775807) :
    Calls Tryd.prog 3 #[.slice a ops.length cap, .int .i64 party, entV t.s t.a t.ls.length t.cap] w (TrueEnd w) := by
  obtain ⟨⟨con, day, cur, seq, per, ref⟩, ta, tcap, tls⟩ := t
  dsimp only at ht ⊢
  obtain ⟨tn, htn⟩ : ∃ n, tls.length = n := ⟨_, rfl⟩
  rw [htn] at ht ⊢
  clear htn
  unfold entV
  have hw0 : 0 < w.heap.size := World.block_lt_of_cell? w _ hR.r0
  obtain ⟨W, hwa⟩ : ∃ wa, w.alloc (.cells #[.int .i64 con, .int .i64 day, .int .i64 cur, .int .i64 seq, .int .i64 per, .int .i64 ref, .slice ta tn tcap] 27) = wa := ⟨_, rfl⟩
  have ba : Below w.heap.size w W := by rw [← hwa]; exact (Below.refl _ _).alloc (Nat.le_refl _) _
  have ka : Blk W w.heap.size #[.int .i64 con, .int .i64 day, .int .i64 cur, .int .i64 seq, .int .i64 per, .int .i64 ref, .slice ta tn tcap] 27 := by rw [← hwa]; exact Blk.new _ _ _
  have BA := Lib.hid ba
  have HB := Lib.hid ka
  have HBc : Hid (∀ V, Below W.heap.size W V → V.cell? ⟨w.heap.size, 0, none⟩ = some (.int .i64 con) ∧ V.cell? ⟨w.heap.size, 1, none⟩ = some (.int .i64 day) ∧ V.cell? ⟨w.heap.size, 2, none⟩ = some (.int .i64 cur) ∧ V.cell? ⟨w.heap.size, 3, none⟩ = some (.int .i64 seq) ∧ V.cell? ⟨w.heap.size, 4, none⟩ = some (.int .i64 per)) := fun V hV => ⟨(HB.out.after hV).cell 0 rfl, (HB.out.after hV).cell 1 rfl, (HB.out.after hV).cell 2 rfl, (HB.out.after hV).cell 3 rfl, (HB.out.after hV).cell 4 rfl⟩
  have HR := Lib.hid (hR.after ba)
  have H := Lib.hid (h.after ba)
  have HFw := Lib.hid (few15 a cap ops W (h.after ba) hl)
  have hl' : ops.length ≤ 9223372036854775807 := by unfold maxLen at hl; omega
  have HWa := Lib.hid hwa
  clear hwa ba ka hR h hl
  go_enter Tryd.func3, Tryd.ntmps3
  go_wp2_with fail
  rw [HWa.out]
  with_reducible refine HFw.out.mono ?_
  rintro e w1 ⟨bb, rfl, hfew, hb1⟩
  have HFew := Lib.hid hfew
  have HB1 := Lib.hid hb1
  clear hfew hb1 HFw HWa
  cases bb
  · go_wp2_with fail
    with_reducible refine (awake15 w1 (HR.out.after HB1.out)).mono ?_
    rintro e w9 ⟨rfl, hb9⟩
    go_wp2_with fail
    go_ret
    exact ⟨rfl, (BA.out.trans (HB1.out.mono BA.out.size)).trans (hb9.mono (BA.out.trans (HB1.out.mono BA.out.size)).size)⟩
  obtain ⟨hn20, hfew⟩ := HFew.out rfl
  have HFew2 := Lib.hid hfew
  clear hfew HFew
  have hk1 := HB.out.after HB1.out
  have e0 : w1.cell? ⟨w.heap.size, 0, none⟩ = some (.int .i64 con) := hk1.cell 0 rfl
  have e1 : w1.cell? ⟨w.heap.size, 1, none⟩ = some (.int .i64 day) := hk1.cell 1 rfl
  have e2 : w1.cell? ⟨w.heap.size, 2, none⟩ = some (.int .i64 cur) := hk1.cell 2 rfl
  have e3 : w1.cell? ⟨w.heap.size, 3, none⟩ = some (.int .i64 seq) := hk1.cell 3 rfl
  have e4 : w1.cell? ⟨w.heap.size, 4, none⟩ = some (.int .i64 per) := hk1.cell 4 rfl
  have e5 : w1.cell? ⟨w.heap.size, 5, none⟩ = some (.int .i64 ref) := hk1.cell 5 rfl
  have e6 : w1.cell? ⟨w.heap.size, 6, none⟩ = some (.slice ta tn tcap) := hk1.cell 6 rfl
  have hfk := few14 ⟨con, day, cur, seq, per, ref⟩ ta tcap tn w1 ht
  dsimp only [entV] at hfk
  obtain ⟨fb, hfb⟩ : ∃ b, decide (tn ≤ 20) = b := ⟨_, rfl⟩
  rw [hfb] at hfk
  have HFk := Lib.hid hfk
  clear hfk hfb hk1
  go_wp2_with fail
  clear e0 e1 e2 e3 e4 e5 e6
  with_reducible refine HFk.out.mono ?_
  rintro e w2 ⟨rfl, hb2⟩
  have HB2 := Lib.hid (HB1.out.trans (hb2.mono HB1.out.size))
  clear hb2 HFk HB1
  cases fb
  · go_wp2_with fail
    with_reducible refine (awake15 w2 (HR.out.after HB2.out)).mono ?_
    rintro e w9 ⟨rfl, hb9⟩
    go_wp2_with fail
    go_ret
    exact ⟨rfl, (BA.out.trans (HB2.out.mono BA.out.size)).trans (hb9.mono (BA.out.trans (HB2.out.mono BA.out.size)).size)⟩
  go_wp2_with fail
  with_reducible refine (lnew_ok w2).mono ?_
  rintro e w3 ⟨p, bm, la, lc, rfl, hL3, hb3, hp3, -⟩
  have HL3 := Lib.hid hL3
  have HB3 := Lib.hid (HB2.out.trans (hb3.mono HB2.out.size))
  have hpw : p < w3.heap.size := hL3.blk.lt
  have zp : W.heap.size ≤ p := by have := HB2.out.size; omega
  clear hL3 hb3
  go_wp2_with fail
  with_reducible refine (pnew_box 30 w3 (by omega) (by omega)).mono ?_
  rintro e w4 ⟨b, s, rfl, hP4, hX4, hb4, hzb, hzs, hsb⟩
  have z3 := HB3.out.size
  have hbl := hP4.lt
  have z4 := hb4.size
  have HA : Hid (Apart3 W p b s) := ⟨zp, by omega, by omega, by omega, by omega, hsb⟩
  obtain ⟨w5, hw5⟩ : ∃ V, w4.alloc (.cells #[.slice none 0 0] 40) = V := ⟨_, rfl⟩
  have hb5 : Below w4.heap.size w4 w5 := by rw [← hw5]; exact (Below.refl _ _).alloc (Nat.le_refl _) _
  have hRq : RqOk w5 w4.heap.size none 0 [] := by rw [← hw5]; exact RqOk.new w4
  have hb45 := hb4.trans (hb5.mono hb4.size)
  have HE5 : Hid (BoS W p b s 0 (6 * 0) w4.heap.size [] w5) := ⟨⟨⟨bm, la, lc, [], (HL3.out.after hb4).after hb5, rfl⟩, WL.nil, ⟨0, hP4.after hb5, by omega, by omega⟩, hX4.after hb5, by simp, HB3.out.trans (hb45.mono z3)⟩, none, 0, [], hRq, rfl⟩
  have HW5 := Lib.hid hw5
  obtain ⟨q, hq⟩ : ∃ n, w4.heap.size = n := ⟨_, rfl⟩
  have hqW : W.heap.size ≤ q := by omega
  have hqne : q ≠ p ∧ q ≠ b ∧ q ≠ s := by omega
  have HQ := Lib.hid hq
  rw [hq] at HE5
  clear hP4 hX4 hb4 HL3 HB3 HB2 z3 hzb hzs hsb hpw zp hbl hp3 z4 hw5 hb5 hRq hb45 hq
  go_wp2_with fail
  rw [HW5.out]
  try rw [HQ.out]
  clear HW5 HQ
  go_loopw [11] (fun u wr => ∃ i : Nat, i ≤ ops.length ∧ u = .int .i64 i ∧ ∃ L, Hid (BoS W p b s i (6 * i) q L wr)) (fun u _ => ops.length - (intOf u).toNat)
  case atStart => exact ⟨0, by omega, rfl, [], HE5.out⟩
  case round =>
    obtain ⟨i, hi, rfl, L, HE⟩ := hrel
    by_cases hlt : i < ops.length
    · obtain ⟨ab, ao, rfl, hbb, hcell⟩ := H.out.cells (by omega)
      have hC := Lib.hid (hcell i hlt)
      have hO := Lib.hid (H.out.2 i hlt)
      have hF : Hid (FewO (Opc.at ops i)) := Lib.hid (HFew2.out _ (by unfold Opc.at; rw [List.getD_eq_getElem?_getD, List.getElem?_eq_getElem hlt]; exact List.getElem_mem hlt))
      obtain ⟨⟨op, os, ok, oa, ocap, oes⟩, hOO⟩ : ∃ x, Opc.at ops i = x := ⟨_, rfl⟩
      rw [hOO] at hC hO hF
      have hrw : Hid (∀ x ∈ oes, (Lit.int .i64 x.s.ref).wf = true) := fun x hx => by
        obtain ⟨k, hk, rfl⟩ := List.getElem_of_mem hx
        have := (hO.out.en.2 k hk).rw
        unfold En.at at this
        rwa [List.getD_eq_getElem?_getD, List.getElem?_eq_getElem hk] at this
      have i1 : (0 : Int) ≤ (i : Int) := by omega
      have i2 : (i : Int) < (ops.length : Int) := by omega
      clear hcell hOO
      obtain ⟨c0, c1, c2, c3⟩ := hC.out.after HE.out.bk.be hbb
      dsimp only at c0 c1 c2 c3
      have HDo := Lib.hid (HE.out.does HA.out HR.out (by omega) (by omega) hqW hqne.1 hqne.2.1 hqne.2.2 op os ok oa ocap oes (hO.out.en.few hF.out.2) hF.out.1 hrw.out)
      go_wp2_with fail
      with_reducible refine HDo.out.mono ?_
      rintro e w7 ⟨rfl, L', hb7⟩
      have HN : Hid (BoS W p b s (i + 1) (6 * (i + 1)) q L' w7) := hb7
      clear hb7 HDo c0 c1 c2 c3
      go_wp2_with fail
      go_roundw
      case rel => exact ⟨i + 1, by omega, by go_num, _, HN⟩
      case measure => simp [intOf]; omega
    · obtain rfl : i = ops.length := by omega
      have HS := HE
      clear HE
      obtain ⟨e0, e1, e2, e3, e4⟩ := HBc.out wr HS.out.bk.be
      have BAr := Lib.hid (BA.out.trans (HS.out.bk.be.mono BA.out.size))
      by_cases h0 : cur < 0
      · have d0 : decide (cur < 0) = true := decide_eq_true h0
        go_wp2_with fail
        with_reducible refine (awake15 wr (HR.out.after HS.out.bk.be)).mono ?_
        rintro e w9 ⟨rfl, hb9⟩
        go_wp2_with fail
        go_ret
        exact ⟨rfl, (BAr.out).trans (hb9.mono (BAr.out).size)⟩
      by_cases h1 : seq < 0
      · have d0 : decide (cur < 0) = false := decide_eq_false h0
        have d1 : decide (seq < 0) = true := decide_eq_true h1
        go_wp2_with fail
        with_reducible refine (awake15 wr (HR.out.after HS.out.bk.be)).mono ?_
        rintro e w9 ⟨rfl, hb9⟩
        go_wp2_with fail
        go_ret
        exact ⟨rfl, (BAr.out).trans (hb9.mono (BAr.out).size)⟩
      by_cases h2 : per < 0
      · have d0 : decide (cur < 0) = false := decide_eq_false h0
        have d1 : decide (seq < 0) = false := decide_eq_false h1
        have d2 : decide (per < 0) = true := decide_eq_true h2
        go_wp2_with fail
        with_reducible refine (awake15 wr (HR.out.after HS.out.bk.be)).mono ?_
        rintro e w9 ⟨rfl, hb9⟩
        go_wp2_with fail
        go_ret
        exact ⟨rfl, (BAr.out).trans (hb9.mono (BAr.out).size)⟩
      by_cases h3 : con < 0
      · have d0 : decide (cur < 0) = false := decide_eq_false h0
        have d1 : decide (seq < 0) = false := decide_eq_false h1
        have d2 : decide (per < 0) = false := decide_eq_false h2
        have d3 : decide (con < 0) = true := decide_eq_true h3
        go_wp2_with fail
        with_reducible refine (awake15 wr (HR.out.after HS.out.bk.be)).mono ?_
        rintro e w9 ⟨rfl, hb9⟩
        go_wp2_with fail
        go_ret
        exact ⟨rfl, (BAr.out).trans (hb9.mono (BAr.out).size)⟩
      have d0 : decide (cur < 0) = false := decide_eq_false h0
      have d1 : decide (seq < 0) = false := decide_eq_false h1
      have d2 : decide (per < 0) = false := decide_eq_false h2
      have d3 : decide (con < 0) = false := decide_eq_false h3
      have hm : 6 * ops.length ≤ 900 := by omega
      obtain ⟨n1, x1, hz1⟩ := sumA_two (sumQ (qBal cur seq) party L).sum
      obtain ⟨n2, x2, hz2⟩ := sumA_two (sumQ (qPer cur per) party L).sum
      obtain ⟨n3, x3, hz3⟩ := sumA_two (sumQ (qTag ⟨con, day, cur⟩) party L).sum
      obtain ⟨m1, b1, hy1⟩ := intE_two (sumQ (qBal cur seq) party L).sum
      obtain ⟨m2, b2, hy2⟩ := intE_two (sumQ (qPer cur per) party L).sum
      obtain ⟨m3, b3, hy3⟩ := intE_two (sumQ (qTag ⟨con, day, cur⟩) party L).sum
      have HZ := Lib.hid (And.intro hz1 (And.intro hz2 (And.intro hz3 (And.intro hy1 (And.intro hy2 hy3)))))
      have HNn := Lib.hid (⟨by omega, by omega, by omega, by omega⟩ : 0 ≤ cur ∧ 0 ≤ seq ∧ 0 ≤ per ∧ 0 ≤ con)
      clear hz1 hz2 hz3 hy1 hy2 hy3 h0 h1 h2 h3
      obtain ⟨w6, hw6⟩ : ∃ V, wr.alloc (.cells #[.int .i64 (-1), .int .i64 (-1), .int .i64 (-1)] 45) = V := ⟨_, rfl⟩
      have hb6 : Below wr.heap.size wr w6 := by rw [← hw6]; exact (Below.refl _ _).alloc (Nat.le_refl _) _
      have hk6 : Blk w6 wr.heap.size #[.int .i64 (-1), .int .i64 (-1), .int .i64 (-1)] 45 := by rw [← hw6]; exact Blk.new _ _ _
      obtain ⟨AN, hAN⟩ : ∃ n, wr.heap.size = n := ⟨_, rfl⟩
      have htl : w.heap.size < wr.heap.size := (HB.out.after HS.out.bk.be).lt
      have HW6 := Lib.hid hw6
      have HS6 := Lib.hid (HS.out.after hb6)
      rw [hAN] at hk6
      have HAn := Lib.hid hk6
      have HAN := Lib.hid hAN
      have HC := Lib.hid (HS6.out.bk.bal hm party cur seq n1 x1 HZ.out.1)
      clear hw6 hb6 hk6 hAN HS
      go_wp2_with fail
      rw [HW6.out]
      try rw [HAN.out]
      clear HW6
      have HS := HS6
      clear HS6
      with_reducible refine HC.out.mono ?_
      rintro e w7 ⟨rfl, hb⟩
      clear HC e0 e1 e2 e3 e4 d0 d1 d2 d3 htl HAN
      have HSn := Lib.hid (HS.out.after hb)
      clear HS
      have HS := HSn
      clear HSn
      have HAnn := Lib.hid (HAn.out.after hb)
      clear HAn hb
      have HAn := HAnn
      clear HAnn
      obtain ⟨e0, e1, e2, e3, e4⟩ := HBc.out w7 HS.out.bk.be
      have a0 : w7.cell? ⟨AN, 0, none⟩ = some (.int .i64 (-1)) := HAn.out.cell 0 rfl
      have a1 : w7.cell? ⟨AN, 1, none⟩ = some (.int .i64 (-1)) := HAn.out.cell 1 rfl
      have a2 : w7.cell? ⟨AN, 2, none⟩ = some (.int .i64 (-1)) := HAn.out.cell 2 rfl
      have HC := Lib.hid (HS.out.bk.per' hm party cur per n2 x2 HZ.out.2.1)
      go_wp2_with fail
      with_reducible refine HC.out.mono ?_
      rintro e w8 ⟨rfl, hb⟩
      clear HC e0 e1 e2 e3 e4 a0 a1 a2
      have HSn := Lib.hid (HS.out.after hb)
      clear HS
      have HS := HSn
      clear HSn
      have HAnn := Lib.hid (HAn.out.after hb)
      clear HAn hb
      have HAn := HAnn
      clear HAnn
      obtain ⟨e0, e1, e2, e3, e4⟩ := HBc.out w8 HS.out.bk.be
      have a0 : (w8).cell? ⟨AN, 0, none⟩ = some (.int .i64 (-1)) := HAn.out.cell 0 rfl
      have a1 : (w8).cell? ⟨AN, 1, none⟩ = some (.int .i64 (-1)) := HAn.out.cell 1 rfl
      have a2 : (w8).cell? ⟨AN, 2, none⟩ = some (.int .i64 (-1)) := HAn.out.cell 2 rfl
      have HC := Lib.hid (HS.out.bk.tot hm party con day cur n3 x3 HZ.out.2.2.1)
      go_wp2_with fail
      with_reducible refine HC.out.mono ?_
      rintro e w9 ⟨rfl, hb⟩
      clear HC e0 e1 e2 e3 e4 a0 a1 a2
      have HSn := Lib.hid (HS.out.after hb)
      clear HS
      have HS := HSn
      clear HSn
      have HAnn := Lib.hid (HAn.out.after hb)
      clear HAn hb
      have HAn := HAnn
      clear HAnn
      obtain ⟨e0, e1, e2, e3, e4⟩ := HBc.out w9 HS.out.bk.be
      have a0 : (w9).cell? ⟨AN, 0, none⟩ = some (.int .i64 (-1)) := HAn.out.cell 0 rfl
      have a1 : (w9).cell? ⟨AN, 1, none⟩ = some (.int .i64 (-1)) := HAn.out.cell 1 rfl
      have a2 : (w9).cell? ⟨AN, 2, none⟩ = some (.int .i64 (-1)) := HAn.out.cell 2 rfl
      have HC := Lib.hid (HS.out.rbal hm party cur seq m1 b1 HNn.out.1 HNn.out.2.1 HZ.out.2.2.2.1)
      go_wp2_with fail
      with_reducible refine HC.out.mono ?_
      rintro e w10 ⟨rfl, hb⟩
      clear HC e0 e1 e2 e3 e4 a0 a1 a2
      have HSn := Lib.hid (HS.out.after hb)
      clear HS
      have HS := HSn
      clear HSn
      have HAnn := Lib.hid (HAn.out.after hb)
      clear HAn hb
      have HAn := HAnn
      clear HAnn
      obtain ⟨e0, e1, e2, e3, e4⟩ := HBc.out w10 HS.out.bk.be
      have a0 : (w10).cell? ⟨AN, 0, none⟩ = some (.int .i64 (-1)) := HAn.out.cell 0 rfl
      have a1 : (w10).cell? ⟨AN, 1, none⟩ = some (.int .i64 (-1)) := HAn.out.cell 1 rfl
      have a2 : (w10).cell? ⟨AN, 2, none⟩ = some (.int .i64 (-1)) := HAn.out.cell 2 rfl
      have HC := Lib.hid (HS.out.rper hm party cur per m2 b2 HNn.out.1 HNn.out.2.2.1 HZ.out.2.2.2.2.1)
      go_wp2_with fail
      with_reducible refine HC.out.mono ?_
      rintro e w11 ⟨rfl, hb⟩
      clear HC e0 e1 e2 e3 e4 a0 a1 a2
      have HSn := Lib.hid (HS.out.after hb)
      clear HS
      have HS := HSn
      clear HSn
      have HAnn := Lib.hid (HAn.out.after hb)
      clear HAn hb
      have HAn := HAnn
      clear HAnn
      obtain ⟨e0, e1, e2, e3, e4⟩ := HBc.out w11 HS.out.bk.be
      have a0 : (w11).cell? ⟨AN, 0, none⟩ = some (.int .i64 (-1)) := HAn.out.cell 0 rfl
      have a1 : (w11).cell? ⟨AN, 1, none⟩ = some (.int .i64 (-1)) := HAn.out.cell 1 rfl
      have a2 : (w11).cell? ⟨AN, 2, none⟩ = some (.int .i64 (-1)) := HAn.out.cell 2 rfl
      have HC := Lib.hid (HS.out.rtag hm party con day cur m3 b3 HNn.out.2.2.2 HZ.out.2.2.2.2.2)
      go_wp2_with fail
      with_reducible refine HC.out.mono ?_
      rintro e w12 ⟨rfl, hb⟩
      clear HC e0 e1 e2 e3 e4 a0 a1 a2
      have HSn := Lib.hid (HS.out.after hb)
      clear HS
      have HS := HSn
      clear HSn
      have HAnn := Lib.hid (HAn.out.after hb)
      clear HAn hb
      have HAn := HAnn
      clear HAnn
      obtain ⟨e0, e1, e2, e3, e4⟩ := HBc.out w12 HS.out.bk.be
      have a0 : (w12).cell? ⟨AN, 0, none⟩ = some (.int .i64 (-1)) := HAn.out.cell 0 rfl
      have a1 : (w12).cell? ⟨AN, 1, none⟩ = some (.int .i64 (-1)) := HAn.out.cell 1 rfl
      have a2 : (w12).cell? ⟨AN, 2, none⟩ = some (.int .i64 (-1)) := HAn.out.cell 2 rfl
      clear e0 e1 e2 e3 e4 a0 a1 a2
      go_wp2_with fail
      with_reducible refine (number_ok _ n1 x1 m1 b1 HZ.out.1 HZ.out.2.2.2.1 w12).mono ?_
      rintro e w13 ⟨rfl, hw13⟩
      obtain rfl : w12 = w13 := hw13.symm
      go_wp2_with fail
      with_reducible refine (number_ok _ n2 x2 m2 b2 HZ.out.2.1 HZ.out.2.2.2.2.1 w12).mono ?_
      rintro e w13 ⟨rfl, hw13⟩
      obtain rfl : w12 = w13 := hw13.symm
      go_wp2_with fail
      with_reducible refine (number_ok _ n3 x3 m3 b3 HZ.out.2.2.1 HZ.out.2.2.2.2.2 w12).mono ?_
      rintro e w13 ⟨rfl, hw13⟩
      obtain rfl : w12 = w13 := hw13.symm
      go_wp2_with fail
      with_reducible refine (awake15 w12 (HR.out.after HS.out.bk.be)).mono ?_
      rintro e w9 ⟨rfl, hb9⟩
      go_wp2_with fail
      go_ret
      exact ⟨rfl, (BA.out.trans (HS.out.bk.be.mono BA.out.size)).trans (hb9.mono (BA.out.trans (HS.out.bk.be.mono BA.out.size)).size)⟩

end Go.Proofs.YtpinhomalmknjaaDoor
/- The statement LedgerSums' arguments. -/
namespace Go.Proofs.YtpinhomalmknjaaDoor
open Go.ChangeShapes Go.WideShapes Go.ChangeAt Go.RowKit
set_option linter.unusedVariables false
set_option maxRecDepth 100000

theorem open_en {H : Type} {enc : TypeId × Value → H} {W : World} {base b2 : Nat} {spare : Nat → Bool} {held : Bool} {v : Value} {d : DataW H} {p : List MemPlace} {r : Reach} (h : DataW.Trod enc Tryd.prog W base spare held 27 v d p) (hok : Value.okWide Tryd.prog W r b2 27 v) :
    ∃ e : En, v = entV e.s e.a e.ls.length e.cap ∧ e.ls.length ≤ 9223372036854775807 := by
  obtain ⟨cs, rfl⟩ := okWide_agg (by kernel_rfl) hok
  obtain ⟨e, he, _, _, _, h5, _⟩ := entry_cells (arg_leaves (d := 5) (ls := [3, 3, 3, 3, 3, 3, 25]) (by kernel_rfl) h)
  have he' : cs.toList = e.cs := he
  refine ⟨e, ?_, h5⟩
  unfold entV
  congr 1
  exact Array.toList_inj.1 (by rw [he']; rfl)
theorem open_LedgerSums {H : Type} (enc : TypeId × Value → H) (base : Nat) (W : World) (hR : RulesAt W) (v0 : Value) (d0 : DataW H) (p0 : List MemPlace) (h0 : DataW.Trod enc Tryd.prog W 0 (fun _ => true) true 22 v0 d0 p0) (ok0 : Value.okWide Tryd.prog W .any base 22 v0)
    (no : Int) (hno : -9223372036854775808 ≤ no ∧ no ≤ 9223372036854775807)
    (v1 : Value) (d1 : DataW H) (p1 : List MemPlace) (h1' : DataW.Trod enc Tryd.prog W 0 (fun _ => true) true 27 v1 d1 p1) (ok1 : Value.okWide Tryd.prog W .any base 27 v1) :
    Calls Tryd.prog 3 #[v0, .int .i64 no, v1] W fun e W' => e = .returned (.bool true) ∧ Below W.heap.size W W' := by
  obtain ⟨t, rfl, ht⟩ := open_en h1' ok1
  obtain ⟨a, len, cap, rfl⟩ := okWide_slice Tryd.underlying22 ok0
  have hl := arg_leaves (d := 2) (ls := [22]) (by kernel_rfl) h0
  obtain ⟨c0, cs0, e0, h1, hl⟩ := hl.cons
  obtain rfl := hl.nil
  simp only [Value.cells, List.cons.injEq, and_true] at e0
  subst e0
  obtain ⟨a', cap', ops, e1, q1, q2, q3, q4⟩ := open_ops_leaf h1
  rw [e1]
  exact walk_LedgerSums W hR a' cap' ops q1 (by omega) no t ht

end Go.Proofs.YtpinhomalmknjaaDoor
