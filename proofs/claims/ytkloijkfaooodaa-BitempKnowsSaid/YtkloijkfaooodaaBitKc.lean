/- The law's knows. -/
import Derived.Test.YtkloijkfaooodaaBitKb
import Derived.Test.YtkloijkfaooodaaFacIa
import Derived.Test.YtkloijkfaooodaaBitR
import Derived.Test.YtkloijkfaooodaaBitS
import Derived.Test.YtkloijkfaooodaaHeldT
import Derived.Test.YtkloijkfaooodaaHeldIn
import Derived.Sort.QuietIn
import Derived.BigQuiet
namespace Go.Proofs.Ytkloijkfaooodaa
open Go.RowKit Go.Sort Go.Shelf
set_option linter.unusedVariables false
set_option linter.unusedSimpArgs false
attribute [local go_sem] Oper.semAt_some

set_option maxRecDepth 100000 in
set_option maxHeartbeats 2000000 in
theorem finX_stops (n : Nat) (hn : 1 ≤ n) (n₀ Bs : Nat) (A : List Fx) (hl : A.length ≤ 1000) (w0 : World) (h0 : SeqAt w0 n₀ Bs 4 138 encX A) (hn0 : n₀ ≤ w0.heap.size) :
    SeqStopsK Fence.wide n Try.prog 84 #[.pointer (some ⟨Bs, 0, none⟩)] (fun (i : Fin A.length) => encVX A[i]) (RowKit.Below n₀) (fun xs => xs = List.finRange A.length) (fun pre => pre <+: List.finRange A.length) A.length w0 := fun l J Jx W hW hJ hJx hY hJ0 => by
  have HS := Lib.hid (h0.below (hW.mono hn0))
  obtain ⟨a, cap, hB, _⟩ := HS.out
  have q1 : W.cell? ⟨Bs, 0, none⟩ = some (.slice a A.length cap) := hB.cell 0 rfl
  have HR : Hid (RecsAt W a 4 encX A) := by
    obtain ⟨a', cap', hB', hR', _⟩ := HS.out
    have := hB.symm.trans hB'
    simp only [Option.some.injEq, Obj.cells.injEq, Array.mk.injEq, List.cons.injEq, Value.slice.injEq, and_true, true_and] at this
    obtain ⟨rfl, rfl⟩ := this
    exact hR'
  have HA : Hid (∀ x, a = some x → x.block < n₀) := by
    obtain ⟨a', cap', hB', _, _, hA'⟩ := HS.out
    have := hB.symm.trans hB'
    simp only [Option.some.injEq, Obj.cells.injEq, Array.mk.injEq, List.cons.injEq, Value.slice.injEq, and_true, true_and] at this
    obtain ⟨rfl, rfl⟩ := this
    exact hA'
  have zW := hW.size
  clear hB h0
  refine callsIn_of_wp Try.func84 rfl trivial ?_ rfl
  simp only [Try.ntmps84, List.size_toArray, List.length_cons, List.length_nil, Nat.reduceAdd, Nat.reduceSub, Array.replicate_succ, Array.replicate_zero, List.push_toArray, List.append_toArray, List.nil_append, List.cons_append]
  gi_wp2_with fail
  gi_loopw [7] (fun c wr => ∃ j : Nat, j ≤ A.length ∧ c = .int .i64 (j : Int) ∧ J ((List.finRange A.length).take j) wr ∧ RowKit.Below n₀ W wr) (fun c _ => A.length - (intOf c).toNat)
  case atStart => exact ⟨0, by omega, rfl, hJ0, RowKit.Below.refl _ _⟩
  case round =>
    obtain ⟨j, hj, rfl, hJk, hbk⟩ := hrel
    have zk := hbk.size
    clear q1
    by_cases hlt : j < A.length
    · have hx := List.getElem?_eq_getElem hlt
      have HT : Hid ((List.finRange A.length).take (j + 1) = (List.finRange A.length).take j ++ [⟨j, hlt⟩]) := fin_take _ j hlt
      obtain ⟨z, hz⟩ : ∃ z, A[j] = z := ⟨_, rfl⟩
      rw [hz] at hx
      have hR := HR.out.below hbk HA.out
      obtain ⟨b, o, rfl, _⟩ := hR (by omega)
      have hbk' : RowKit.Below wr.heap.size wr (wr.alloc (.cells (encX z).toArray 86)) := (RowKit.Below.refl _ _).alloc (Nat.le_refl _) _
      have hJ2 : J ((List.finRange A.length).take j) (wr.alloc (.cells (encX z).toArray 86)) := hJ _ wr _ none hJk (below_grownN hbk') (by rintro r ⟨⟩)
      obtain ⟨fn, tmps, assign, body, hy, hR3⟩ := hY _ ⟨j, hlt⟩ _ hJ2 (by rw [List.length_take, List.length_finRange]; omega)
      have hz' : A[(⟨j, hlt⟩ : Fin A.length)] = z := hz
      rw [hz'] at hy
      obtain ⟨k, d, n, m⟩ := z
      dsimp only [encVX, encX] at hy hbk' hR3
      have c0 : wr.cell? ⟨b, o + j * 4, none⟩ = some (.int .i64 k) := RecsAt.cell hR rfl hlt hx (j := 0) rfl
      have c1 : wr.cell? ⟨b, o + j * 4 + 1, none⟩ = some (.int .i64 d) := RecsAt.cell hR rfl hlt hx (j := 1) rfl
      have c2 : wr.cell? ⟨b, o + j * 4 + 2, none⟩ = some (.int .i64 n) := RecsAt.cell hR rfl hlt hx (j := 2) rfl
      have c3 : wr.cell? ⟨b, o + j * 4 + 3, none⟩ = some (.int .i64 m) := RecsAt.cell hR rfl hlt hx (j := 3) rfl
      clear hx hz hR hJ2
      gi_wp2_with fail
      refine hR3.mono ?_
      rintro e w3 (⟨rfl, hJ3, hk3⟩ | ⟨rfl, hJx3⟩)
      · rw [← HT.out] at hJ3
        have hB3 := (hbk.trans (hbk'.mono (by omega))).trans hk3
        gi_wp2_with fail
        go_roundw
        case rel => exact ⟨j + 1, by omega, by go_num, hJ3, hB3⟩
        case measure => simp [intOf]; omega
      · rw [← HT.out] at hJx3
        gi_wp2_with fail
        refine bodyPost_ret (results_none rfl _ _ _) rfl ?_
        exact ⟨⟨_, rfl⟩, .inr ⟨_, List.take_prefix _ _, hJx3⟩⟩
    · obtain rfl : j = A.length := by omega
      rw [List.take_of_length_le (by simp)] at hJk
      gi_wp2_with fail
      go_end0
      exact ⟨⟨_, rfl⟩, .inl ⟨_, rfl, hJk⟩⟩
set_option maxRecDepth 100000 in
set_option maxHeartbeats 2000000 in
theorem finH_stops (n : Nat) (hn : 1 ≤ n) (n₀ Bs : Nat) (A : List Ch) (hl : A.length ≤ 1000) (w0 : World) (h0 : SeqAt w0 n₀ Bs 3 141 encH A) (hn0 : n₀ ≤ w0.heap.size) :
    SeqStopsK Fence.wide n Try.prog 88 #[.pointer (some ⟨Bs, 0, none⟩)] (fun (i : Fin A.length) => encVH A[i]) (RowKit.Below n₀) (fun xs => xs = List.finRange A.length) (fun pre => pre <+: List.finRange A.length) A.length w0 := fun l J Jx W hW hJ hJx hY hJ0 => by
  have HS := Lib.hid (h0.below (hW.mono hn0))
  obtain ⟨a, cap, hB, _⟩ := HS.out
  have q1 : W.cell? ⟨Bs, 0, none⟩ = some (.slice a A.length cap) := hB.cell 0 rfl
  have HR : Hid (RecsAt W a 3 encH A) := by
    obtain ⟨a', cap', hB', hR', _⟩ := HS.out
    have := hB.symm.trans hB'
    simp only [Option.some.injEq, Obj.cells.injEq, Array.mk.injEq, List.cons.injEq, Value.slice.injEq, and_true, true_and] at this
    obtain ⟨rfl, rfl⟩ := this
    exact hR'
  have HA : Hid (∀ x, a = some x → x.block < n₀) := by
    obtain ⟨a', cap', hB', _, _, hA'⟩ := HS.out
    have := hB.symm.trans hB'
    simp only [Option.some.injEq, Obj.cells.injEq, Array.mk.injEq, List.cons.injEq, Value.slice.injEq, and_true, true_and] at this
    obtain ⟨rfl, rfl⟩ := this
    exact hA'
  have zW := hW.size
  clear hB h0
  refine callsIn_of_wp Try.func88 rfl trivial ?_ rfl
  simp only [Try.ntmps88, List.size_toArray, List.length_cons, List.length_nil, Nat.reduceAdd, Nat.reduceSub, Array.replicate_succ, Array.replicate_zero, List.push_toArray, List.append_toArray, List.nil_append, List.cons_append]
  gi_wp2_with fail
  gi_loopw [7] (fun c wr => ∃ j : Nat, j ≤ A.length ∧ c = .int .i64 (j : Int) ∧ J ((List.finRange A.length).take j) wr ∧ RowKit.Below n₀ W wr) (fun c _ => A.length - (intOf c).toNat)
  case atStart => exact ⟨0, by omega, rfl, hJ0, RowKit.Below.refl _ _⟩
  case round =>
    obtain ⟨j, hj, rfl, hJk, hbk⟩ := hrel
    have zk := hbk.size
    clear q1
    by_cases hlt : j < A.length
    · have hx := List.getElem?_eq_getElem hlt
      have HT : Hid ((List.finRange A.length).take (j + 1) = (List.finRange A.length).take j ++ [⟨j, hlt⟩]) := fin_take _ j hlt
      obtain ⟨z, hz⟩ : ∃ z, A[j] = z := ⟨_, rfl⟩
      rw [hz] at hx
      have hR := HR.out.below hbk HA.out
      obtain ⟨b, o, rfl, _⟩ := hR (by omega)
      have hbk' : RowKit.Below wr.heap.size wr (wr.alloc (.cells (encH z).toArray 89)) := (RowKit.Below.refl _ _).alloc (Nat.le_refl _) _
      have hJ2 : J ((List.finRange A.length).take j) (wr.alloc (.cells (encH z).toArray 89)) := hJ _ wr _ none hJk (below_grownN hbk') (by rintro r ⟨⟩)
      obtain ⟨fn, tmps, assign, body, hy, hR3⟩ := hY _ ⟨j, hlt⟩ _ hJ2 (by rw [List.length_take, List.length_finRange]; omega)
      have hz' : A[(⟨j, hlt⟩ : Fin A.length)] = z := hz
      rw [hz'] at hy
      obtain ⟨k, d, p⟩ := z
      dsimp only [encVH, encH] at hy hbk' hR3
      have c0 : wr.cell? ⟨b, o + j * 3, none⟩ = some (.int .i64 k) := RecsAt.cell hR rfl hlt hx (j := 0) rfl
      have c1 : wr.cell? ⟨b, o + j * 3 + 1, none⟩ = some (.int .i64 d) := RecsAt.cell hR rfl hlt hx (j := 1) rfl
      have c2 : wr.cell? ⟨b, o + j * 3 + 2, none⟩ = some (.int .i64 p) := RecsAt.cell hR rfl hlt hx (j := 2) rfl
      clear hx hz hR hJ2
      gi_wp2_with fail
      refine hR3.mono ?_
      rintro e w3 (⟨rfl, hJ3, hk3⟩ | ⟨rfl, hJx3⟩)
      · rw [← HT.out] at hJ3
        have hB3 := (hbk.trans (hbk'.mono (by omega))).trans hk3
        gi_wp2_with fail
        go_roundw
        case rel => exact ⟨j + 1, by omega, by go_num, hJ3, hB3⟩
        case measure => simp [intOf]; omega
      · rw [← HT.out] at hJx3
        gi_wp2_with fail
        refine bodyPost_ret (results_none rfl _ _ _) rfl ?_
        exact ⟨⟨_, rfl⟩, .inr ⟨_, List.take_prefix _ _, hJx3⟩⟩
    · obtain rfl : j = A.length := by omega
      rw [List.take_of_length_le (by simp)] at hJk
      gi_wp2_with fail
      go_end0
      exact ⟨⟨_, rfl⟩, .inl ⟨_, rfl, hJk⟩⟩
theorem wpIn_quiet_round {P : Program} {id l n : Nat} {Q : Exit → Act → World → Prop} {a : Act} {w : World} {ops : List Oper} (hm : P.follows .mixedOrders = true) (hB : Region.lexB .any ops.toArray = true) (hQ : ¬ LetsOut Q) (hd : noDeferB ops.toArray = true)
    (h : wpQuiet P ops.toArray (fun w' => ∃ n, w' = w.drewN n) (fun a' => ∀ w', (∃ n, w' = w.drewN n) → Q .normal a' w') ops a) : (Code.region id ops.toArray true).wpIn (Fence.wide.inRound l) n P Q a w := by
  simp only [Region.lexB, Bool.and_eq_true] at hB
  refine wpIn_region_any hm (any_round hQ hd _ _ _ _ (wpAny_of_quiet (C := fun w' => ∃ n, w' = w.drewN n) (Q := fun a' => ∀ w', (∃ n, w' = w.drewN n) → Q .normal a' w') (fun _ w' hw' h => h w' hw') _ _ _ _ ⟨1, rfl⟩ ?_))
  have := wpAnyQ_lex (C := fun w' => ∃ n, w' = w.drewN n) (md := .any) hB.1 ops.toArray.toList 0 (Array.replicate ops.toArray.size false) a (by simp) (by simpa using hB.2) (by simpa using h)
  simpa using this
theorem turn_below {n : Nat} {w w' : World} (h : RowKit.Below n w w') : Turn ((List.range w.heap.size).filter fun k => decide (n ≤ k)) w w' :=
  ⟨h.os, h.tape, h.output, h.size, fun k hk hn => h.block k (by
    rcases Nat.lt_or_ge k n with h1 | h1
    · exact h1
    · exact absurd (List.mem_filter.2 ⟨List.mem_range.2 hk, by simpa using h1⟩) hn)⟩
theorem not_over {n : Nat} {w : World} {k : Nat} (h : k < n) : k ∉ ((List.range w.heap.size).filter fun k => decide (n ≤ k)) := fun hk => by
  have := (List.mem_filter.1 hk).2
  simp at this
  omega
theorem RfAt.below {w w' : World} {base p n : Nat} {sv : Value} {V : List Vs} (h : RfAt w base p sv V) (hb : RowKit.Below n w w') (hn : ∀ b ∈ RfAt.bs p sv, b < n) : RfAt w' base p sv V :=
  h.turn (turn_below hb) (not_over (hn _ (by simp [RfAt.bs]))) (fun g hg => not_over (hn _ (by unfold RfAt.bs; rw [hg]; simp)))
theorem RfAt.recs {w : World} {base p cap : Nat} {a : Option Addr} {V : List Vs} (h : RfAt w base p (.slice a V.length cap) V) : RecsAt w a 7 encR V := by
  obtain ⟨a', cap', he, _, _, _, _, hR⟩ := owned_recs (enc := encR) (size := 7) (fun _ => rfl) h.own rfl
  simp only [Value.slice.injEq, true_and] at he
  obtain ⟨rfl, rfl⟩ := he
  exact hR
def KnowsEnd (w : World) (e : Ending) (w' : World) : Prop := e = .returned (.bool true) ∧ RowKit.Below w.heap.size w w'
/-- The ranges' own: the count's box. -/
def KnI (B n₀ n₃ k0 : Nat) (Ds : List Nat) (w3 : World) {m : Nat} (pre : List (Fin m)) (W : World) : Prop :=
  Blk W B #[.int .i64 ((k0 + pre.length : Nat) : Int)] 3 ∧ (∀ D ∈ Ds, W.heap[D]? = some (.deferred (some []))) ∧ RowKit.Below n₀ w3 W ∧ n₃ ≤ W.heap.size
theorem defers_own {β : Type} (Ds : List Nat) (N : Nat) (h : ∀ D ∈ Ds, D < N) : OwnFrom N (fun (_ : β) W => ∀ D ∈ Ds, W.heap[D]? = some (.deferred (some []))) := fun s X Y row hs hg hr D hD =>
  (hg.block D (Array.getElem?_eq_some_iff.1 (hs D hD)).1 (fun e => by have := (hr D e.symm).1; have := h D hD; omega)).trans (hs D hD)
set_option maxRecDepth 100000 in
set_option maxHeartbeats 16000000 in
theorem knows_ok (base p ba bc rp : Nat) (rv : Value) (A : List Fx) (C : List Ch) (V : List Vs) (s : Int) (w : World) (hF : FactsAt w p ba bc A C) (hR : RfAt w base rp rv V) (hK : KnowsP V s A C) (hl : V.length ≤ 900) :
    Calls Try.prog 33 #[.pointer (some ⟨p, 0, none⟩), .pointer (some ⟨rp, 0, none⟩), .int .i64 s] w (KnowsEnd w) := by
  have hcnt := hK.count
  have hAC : A.length + C.length ≤ 900 := by rw [← hcnt]; exact Nat.le_trans (cntL_le _ _ _) hl
  have HCnt := Lib.hid hcnt
  refine (callsIn_wide (n := 5)).1 ?_
  refine callsIn_of_wp_marks Try.func33 rfl trivial ?_ rfl
  simp only [Try.ntmps33, List.size_toArray, List.length_cons, List.length_nil, Nat.reduceAdd, Nat.reduceSub, Array.replicate_succ, Array.replicate_zero, List.push_toArray, List.append_toArray, List.nil_append, List.cons_append]
  refine wpIn_wide.2 ?_
  obtain ⟨w0, hw0⟩ : ∃ W, ((w.alloc (.cells #[.pointer (some ⟨rp, 0, none⟩)] 45)).alloc (.cells #[.int .i64 s] 3)).alloc (.cells #[.bool false] 4) = W := ⟨_, rfl⟩
  have hb0 : RowKit.Below w.heap.size w w0 := by rw [← hw0]; exact (((RowKit.Below.refl _ _).alloc (Nat.le_refl _) _).alloc (by simp) _).alloc (by simp; omega) _
  have z0 : w0.heap.size = w.heap.size + 3 := by rw [← hw0]; simp
  have k0 : Blk w0 w.heap.size #[.pointer (some ⟨rp, 0, none⟩)] 45 := by rw [← hw0]; exact ((Blk.new _ _ _).alloc _).alloc _
  have k1 : Blk w0 (w.heap.size + 1) #[.int .i64 s] 3 := by
    rw [← hw0]
    have := Blk.new (w.alloc (.cells #[.pointer (some ⟨rp, 0, none⟩)] 45)) #[.int .i64 s] 3
    rw [World.size_alloc] at this
    exact this.alloc _
  have k2 : Blk w0 (w.heap.size + 1 + 1) #[.bool false] 4 := by
    rw [← hw0]
    have := Blk.new ((w.alloc (.cells #[.pointer (some ⟨rp, 0, none⟩)] 45)).alloc (.cells #[.int .i64 s] 3)) #[.bool false] 4
    rw [World.size_alloc, World.size_alloc] at this
    exact this
  have HW0 := Lib.hid hw0
  have HB0 := Lib.hid hb0
  have K00 := Lib.hid k0
  have K10 := Lib.hid k1
  have K20 := Lib.hid k2
  have HF0 := Lib.hid (hF.after hb0)
  have HR0 := Lib.hid (hR.after hb0)
  have HKn := Lib.hid hK
  clear hw0 hb0 k0 k1 k2 hF hR hK hcnt
  go_wp2_with fail
  rw [HW0.out]
  with_reducible refine (seqX_ok p ba bc A C w0 HF0.out (by omega)).mono ?_
  rintro e w1 ⟨Bx, rfl, hsx, hb1, _⟩
  have HSX1 := Lib.hid hsx
  have HF1 := Lib.hid (HF0.out.after hb1)
  have HR1 := Lib.hid (HR0.out.after hb1)
  have K01 := Lib.hid (K00.out.after hb1)
  have K11 := Lib.hid (K10.out.after hb1)
  have K21 := Lib.hid (K20.out.after hb1)
  have HB1 := Lib.hid (HB0.out.trans (hb1.mono HB0.out.size))
  have z1' := hb1.size
  clear hb1
  clear hsx
  go_wp2_with fail
  with_reducible refine (seqH_ok p ba bc A C w1 HF1.out (by omega)).mono ?_
  rintro e w2 ⟨Bh, rfl, hsh, hb2, _⟩
  have HSX2 := Lib.hid ((HSX1.out.below hb2).mono hb2.size)
  have HF2 := Lib.hid (HF1.out.after hb2)
  have HR2 := Lib.hid (HR1.out.after hb2)
  have K02 := Lib.hid (K01.out.after hb2)
  have K12 := Lib.hid (K11.out.after hb2)
  have K22 := Lib.hid (K21.out.after hb2)
  have HB2 := Lib.hid (HB1.out.trans (hb2.mono HB1.out.size))
  have z2' := hb2.size
  clear hb2
  have HSH2 := Lib.hid hsh
  clear hsh
  have heX := eqlfX (.func 84) #[] #[.pointer (some ⟨Bx, 0, none⟩)]
  have heH := eqlfH (.func 88) #[] #[.pointer (some ⟨Bh, 0, none⟩)]
  obtain ⟨w3, hw3⟩ : ∃ W, w2.alloc (.cells #[.int .i64 0] 3) = W := ⟨_, rfl⟩
  have hb3 : RowKit.Below w2.heap.size w2 w3 := by rw [← hw3]; exact (RowKit.Below.refl _ _).alloc (Nat.le_refl _) _
  have z3 : w3.heap.size = w2.heap.size + 1 := by rw [← hw3]; simp
  have kn3 : Blk w3 w2.heap.size #[.int .i64 0] 3 := by rw [← hw3]; exact Blk.new _ _ _
  have HSX3 := Lib.hid (HSX2.out.below hb3)
  have HSH3 := Lib.hid (HSH2.out.below hb3)
  have HF3 := Lib.hid (HF2.out.after hb3)
  have HR3 := Lib.hid (HR2.out.after hb3)
  have K03 := Lib.hid (K02.out.after hb3)
  have K13 := Lib.hid (K12.out.after hb3)
  have K23 := Lib.hid (K22.out.after hb3)
  have HB3 := Lib.hid (HB2.out.trans (hb3.mono HB2.out.size))
  have z3' := hb3.size
  clear hb3
  have KN3 := Lib.hid kn3
  have HW3 := Lib.hid hw3
  have HRl : Hid (∀ b ∈ RfAt.bs rp rv, b < w2.heap.size) := fun b hb => (HR2.out.bs_lt b hb).2
  clear hw3 kn3 HF0 HF1 HF2 HR0 HR1 HR2 K00 K10 K20 K01 K11 K21 K02 K12 K22 HB0 HB1 HB2 HSX1 HSX2 HSH2
  go_wp2_with fail
  rw [HW3.out]
  obtain ⟨ra, rc, rfl, _⟩ := owned_recs (enc := encR) (size := 7) (fun _ => rfl) HR3.out.own rfl
  clear HW3 heX heH
  refine wpIn_wide (n := 5) |>.1 ?_
  refine wpIn_range_box rfl (by omega) (gf := 84) (lb := #[.pointer (some ⟨Bx, 0, none⟩)]) rfl trivial (enters_of Try.func84 (by kernel_rfl) rfl)
    (finX_stops _ (by omega) w2.heap.size Bx A (by omega) w3 HSX3.out (by omega)) belowK_t (belowK_b (by omega)) (RowKit.Below.refl _ _) (fun _ => rfl)
    (KnI w2.heap.size w2.heap.size w3.heap.size (0) [] w3) (fun _ _ _ => False)
    (OwnFrom.and (Own.from (blk_own _ (fun (pre : List (Fin (A).length)) => #[.int .i64 (((0) + pre.length : Nat) : Int)]) _) _) (OwnFrom.and (defers_own _ _ (fun D h => by cases h)) (OwnFrom.and (ownFrom_below (by omega) (by omega)) (fun s X Y row hs hg hr => Nat.le_trans hs hg.size))))
    (fun _ _ _ _ _ hs _ _ => hs)
    ⟨KN3.out, (fun D h => by cases h), RowKit.Below.refl _ _, Nat.le_refl _⟩
    86 (fun x => encX (A)[x]) 10 w3.heap.size (fun pre W h => h.2.2.2) (fun pre W o h => (RowKit.Below.refl _ _).alloc (by have := h.2.2.1.size; omega) _)
    ?assign1 ?body1 ?done1 ?stop1
  case assign1 =>
    intro l pre x W K hI hK
    have hK' := Lib.hid hK
    clear hK hI
    dsimp only [boxAct] at hK'
    generalize A[x] = z at hK' ⊢
    obtain ⟨xk, xd, xn, xm⟩ := z
    dsimp only [encVX, encX] at hK' ⊢
    gi_wp2_with fail
    simpa [boxAct, encX] using hK'.out
  case body1 =>
    rintro l pre x Bb W hl' ⟨r, hr⟩ ⟨hn, hDs, hB, hz⟩ hBb hX hlt
    have hmem : A[x] ∈ A := List.getElem_mem _
    obtain ⟨v, hv, hv1, hv2⟩ := (HKn.out.a _).1 hmem
    obtain ⟨z, hzx⟩ : ∃ z, A[x] = z := ⟨_, rfl⟩
    rw [hzx] at hv hv1 hv2 hX
    clear hmem hzx
    obtain ⟨xk, xd, xn, xm⟩ := z
    dsimp only [encX] at hX
    dsimp only at hv hv1 hv2
    have x0 : W.cell? ⟨Bb, 0, none⟩ = some (.int .i64 xk) := hX.cell 0 rfl
    have x1 : W.cell? ⟨Bb, 1, none⟩ = some (.int .i64 xd) := hX.cell 1 rfl
    have hRW : RfAt W base rp (.slice ra V.length rc) V := HR3.out.below hB (fun b hb => (HRl.out b hb))
    have hp : Calls Try.prog 28 #[.pointer (some ⟨rp, 0, none⟩), .int .i64 0, .int .i64 xk, .int .i64 xd, .int .i64 s] W (LatREnd W V (false, xk, xd) s) := rlat_ok base rp _ V false xk xd s W hRW (by omega)
    have HP := Lib.hid hp
    have m0 : W.cell? ⟨w.heap.size, 0, none⟩ = some (.pointer (some ⟨rp, 0, none⟩)) := (K03.out.below hB (by omega)).cell 0 rfl
    have m1 : W.cell? ⟨w.heap.size + 1, 0, none⟩ = some (.int .i64 s) := (K13.out.below hB (by omega)).cell 0 rfl
    simp only [boxAct]
    clear hp
    gi_wp2_with fail
    refine ⟨trivial, ?_⟩
    with_reducible refine (CallsIn.inRound l (callsIn_wide.2 HP.out)).mono ?_
    rintro e w6 ⟨i, rfl, hi, hb6⟩
    rcases latI_lat hi with ⟨_, hno⟩ | ⟨j, o, rfl, hj, hjo, hlo⟩
    · rw [hv] at hno; cases hno
    · rw [hv] at hlo
      obtain rfl := Option.some.inj hlo
      have hR6 := hRW.after hb6
      have hrr := hR6.recs
      obtain ⟨b, o, hra, _⟩ := hrr (by omega)
      rw [hra] at hrr
      obtain ⟨vs, vc, vk, vd, vn, vm, vp⟩ := v
      dsimp only at hv1 hv2
      subst hv1 hv2
      have c0 : w6.cell? ⟨rp, 0, none⟩ = some (.slice (some ⟨b, o, none⟩) V.length rc) := by rw [← hra]; exact hR6.blk.cell 0 rfl
      have c4 : w6.cell? ⟨b, o + j * 7 + 4, none⟩ = some (.int .i64 vn) := RecsAt.cell hrr rfl hj hjo (j := 4) rfl
      have c5 : w6.cell? ⟨b, o + j * 7 + 5, none⟩ = some (.int .i64 vm) := RecsAt.cell hrr rfl hj hjo (j := 5) rfl
      have n0 : w6.cell? ⟨w.heap.size, 0, none⟩ = some (.pointer (some ⟨rp, 0, none⟩)) := below_cell hb6 m0
      have y2 : w6.cell? ⟨Bb, 2, none⟩ = some (.int .i64 vn) := below_cell hb6 (hX.cell 2 rfl)
      have y3 : w6.cell? ⟨Bb, 3, none⟩ = some (.int .i64 vm) := below_cell hb6 (hX.cell 3 rfl)
      obtain ⟨c, hc⟩ : ∃ c, 0 + pre.length = c := ⟨_, rfl⟩
      rw [hc] at hn
      have kn6 : Blk w6 w2.heap.size #[.int .i64 (c : Int)] 3 := hn.after hb6
      have n1 : w6.cell? ⟨w2.heap.size, 0, none⟩ = some (.int .i64 (c : Int)) := kn6.cell 0 rfl
      have nf := kn6.free 0
      have i1 : (0 : Int) ≤ (j : Int) := by omega
      have i2 : (j : Int) < (V.length : Int) := by omega
      have i3 : decide ((j : Int) < 0) = false := decide_eq_false (by omega)
      clear x0 x1 m0 m1 hrr hjo hR6 hv
      have i4 : IntKind.i64.wrap ((c : Int) + 1) = (c : Int) + 1 := IntWalk.i64_in _ (by omega)
      have zW := hB.size
      have z6 := hb6.size
      have HFin : Hid (∀ n, KeepsFrom w3.heap.size W ((w6.drewN n).setCell ⟨w2.heap.size, 0, none⟩ (.int .i64 ((c : Int) + 1))) ∧ RowKit.Below w2.heap.size W ((w6.drewN n).setCell ⟨w2.heap.size, 0, none⟩ (.int .i64 ((c : Int) + 1))) ∧ KnI w2.heap.size w2.heap.size w3.heap.size 0 [] w3 (pre ++ [x]) ((w6.drewN n).setCell ⟨w2.heap.size, 0, none⟩ (.int .i64 ((c : Int) + 1)))) := fun n => by
        have hq := hb6.trans ((below_draws w6 n).mono hb6.size)
        have hbs := below_setCells (hq.mono (show w2.heap.size ≤ W.heap.size by omega)) (Nat.le_refl _) 0 (.int .i64 ((c : Int) + 1))
        refine ⟨(keeps_below hq _).trans ((KeepsOthers.setCell _ _ _).from _), hbs, ?_, (fun D h => by cases h), hB.trans hbs, Nat.le_trans (Nat.le_trans hz hq.size) (by simp)⟩
        have := (kn6.after (below_draws w6 n)).set 0 (.int .i64 ((c : Int) + 1))
        rw [List.length_append, List.length_singleton, ← Nat.add_assoc, hc]
        exact this
      clear hn hB hz hBb hX hRW hDs HP hi hb6 hra kn6
      gi_wp2_with fail
      refine wpIn_quiet_round (by kernel_rfl) (by kernel_rfl) (fun ⟨_, _, h⟩ => h) (by rfl) ?_
      repeat (go_big_quiet_step (fail))
      refine wpQuiet_nil ?_
      rintro _ ⟨nq, rfl⟩
      gi_wp2_with fail
      exact HFin.out _
  case done1 =>
    rintro D ys W hD rfl ⟨hn, _, hB, hz⟩ hK
    rw [List.length_finRange, Nat.zero_add] at hn
    have HSHW := Lib.hid (HSH3.out.below hB)
    have hDW : D < W.heap.size := (Array.getElem?_eq_some_iff.1 hK).1
    have HN := Lib.hid hn
    have HBW := Lib.hid hB
    have HKD := Lib.hid hK
    clear hn hB hK
    go_wp2_with fail
    refine wpIn_wide (n := 5) |>.1 ?_
    refine wpIn_range_box rfl (by omega) (gf := 88) (lb := #[.pointer (some ⟨Bh, 0, none⟩)]) rfl trivial (enters_of Try.func88 (by kernel_rfl) rfl)
      (finH_stops _ (by omega) w2.heap.size Bh C (by omega) W HSHW.out (by omega)) belowK_t (belowK_b (by omega)) (RowKit.Below.refl _ _) (fun _ => rfl)
      (KnI w2.heap.size w2.heap.size W.heap.size (A.length) [D] W) (fun _ _ _ => False)
      (OwnFrom.and (Own.from (blk_own _ (fun (pre : List (Fin (C).length)) => #[.int .i64 (((A.length) + pre.length : Nat) : Int)]) _) _) (OwnFrom.and (defers_own _ _ (fun D' h => by rw [List.mem_singleton.1 h]; exact hDW)) (OwnFrom.and (ownFrom_below (by omega) (by omega)) (fun s X Y row hs hg hr => Nat.le_trans hs hg.size))))
      (fun _ _ _ _ _ hs _ _ => hs)
      ⟨HN.out, (fun D' h => by rw [List.mem_singleton.1 h]; exact HKD.out), RowKit.Below.refl _ _, Nat.le_refl _⟩
      89 (fun x => encH (C)[x]) 12 W.heap.size (fun pre W h => h.2.2.2) (fun pre W o h => (RowKit.Below.refl _ _).alloc (by have := h.2.2.1.size; omega) _)
      ?assign2 ?body2 ?done2 ?stop2
    case assign2 =>
      intro l pre x W K hI hK
      have hK' := Lib.hid hK
      clear hK hI
      dsimp only [boxAct] at hK'
      generalize C[x] = z at hK' ⊢
      obtain ⟨xk, xd, xp⟩ := z
      dsimp only [encVH, encH] at hK' ⊢
      gi_wp2_with fail
      simpa [boxAct, encH] using hK'.out
    case body2 =>
      rintro l pre x Bb X hl' ⟨r, hr⟩ ⟨hn, hDs, hB, hz⟩ hBb hX hlt
      have hmem : C[x] ∈ C := List.getElem_mem _
      obtain ⟨v, hv, hv1⟩ := (HKn.out.c _).1 hmem
      obtain ⟨z, hzx⟩ : ∃ z, C[x] = z := ⟨_, rfl⟩
      rw [hzx] at hv hv1 hX
      clear hmem hzx
      obtain ⟨xk, xd, xp⟩ := z
      dsimp only [encH] at hX
      dsimp only at hv hv1
      have x0 : X.cell? ⟨Bb, 0, none⟩ = some (.int .i64 xk) := hX.cell 0 rfl
      have x1 : X.cell? ⟨Bb, 1, none⟩ = some (.int .i64 xd) := hX.cell 1 rfl
      have hB3 := HBW.out.trans hB
      have hRW : RfAt X base rp (.slice ra V.length rc) V := HR3.out.below hB3 (fun b hb => (HRl.out b hb))
      have hp : Calls Try.prog 28 #[.pointer (some ⟨rp, 0, none⟩), .int .i64 1, .int .i64 xk, .int .i64 xd, .int .i64 s] X (LatREnd X V (true, xk, xd) s) := rlat_ok base rp _ V true xk xd s X hRW (by omega)
      have HP := Lib.hid hp
      have m0 : X.cell? ⟨w.heap.size, 0, none⟩ = some (.pointer (some ⟨rp, 0, none⟩)) := (K03.out.below hB3 (by omega)).cell 0 rfl
      have m1 : X.cell? ⟨w.heap.size + 1, 0, none⟩ = some (.int .i64 s) := (K13.out.below hB3 (by omega)).cell 0 rfl
      simp only [boxAct]
      clear hp
      gi_wp2_with fail
      refine ⟨trivial, ?_⟩
      with_reducible refine (CallsIn.inRound l (callsIn_wide.2 HP.out)).mono ?_
      rintro e w6 ⟨i, rfl, hi, hb6⟩
      rcases latI_lat hi with ⟨_, hno⟩ | ⟨j, o, rfl, hj, hjo, hlo⟩
      · rw [hv] at hno; cases hno
      · rw [hv] at hlo
        obtain rfl := Option.some.inj hlo
        have hR6 := hRW.after hb6
        have hrr := hR6.recs
        obtain ⟨b, o, hra, _⟩ := hrr (by omega)
        rw [hra] at hrr
        obtain ⟨vs, vc, vk, vd, vn, vm, vp⟩ := v
        dsimp only at hv1
        subst hv1
        have c0 : w6.cell? ⟨rp, 0, none⟩ = some (.slice (some ⟨b, o, none⟩) V.length rc) := by rw [← hra]; exact hR6.blk.cell 0 rfl
        have c6 : w6.cell? ⟨b, o + j * 7 + 6, none⟩ = some (.int .i64 vp) := RecsAt.cell hrr rfl hj hjo (j := 6) rfl
        have n0 : w6.cell? ⟨w.heap.size, 0, none⟩ = some (.pointer (some ⟨rp, 0, none⟩)) := below_cell hb6 m0
        have y2 : w6.cell? ⟨Bb, 2, none⟩ = some (.int .i64 vp) := below_cell hb6 (hX.cell 2 rfl)
        obtain ⟨c, hc⟩ : ∃ c, A.length + pre.length = c := ⟨_, rfl⟩
        rw [hc] at hn
        have kn6 : Blk w6 w2.heap.size #[.int .i64 (c : Int)] 3 := hn.after hb6
        have n1 : w6.cell? ⟨w2.heap.size, 0, none⟩ = some (.int .i64 (c : Int)) := kn6.cell 0 rfl
        have nf := kn6.free 0
        have i1 : (0 : Int) ≤ (j : Int) := by omega
        have i2 : (j : Int) < (V.length : Int) := by omega
        have i3 : decide ((j : Int) < 0) = false := decide_eq_false (by omega)
        have hpl : pre.length < C.length := hlt
        clear x0 x1 m0 m1 hrr hjo hR6 hv
        have i4 : IntKind.i64.wrap ((c : Int) + 1) = (c : Int) + 1 := IntWalk.i64_in _ (by omega)
        have zW := hB.size
        have z6 := hb6.size
        have HFin : Hid (∀ n, KeepsFrom W.heap.size X ((w6.drewN n).setCell ⟨w2.heap.size, 0, none⟩ (.int .i64 ((c : Int) + 1))) ∧ RowKit.Below w2.heap.size X ((w6.drewN n).setCell ⟨w2.heap.size, 0, none⟩ (.int .i64 ((c : Int) + 1))) ∧ KnI w2.heap.size w2.heap.size W.heap.size A.length [D] W (pre ++ [x]) ((w6.drewN n).setCell ⟨w2.heap.size, 0, none⟩ (.int .i64 ((c : Int) + 1)))) := fun n => by
          have hq := hb6.trans ((below_draws w6 n).mono hb6.size)
          have hbs := below_setCells (hq.mono (show w2.heap.size ≤ X.heap.size by omega)) (Nat.le_refl _) 0 (.int .i64 ((c : Int) + 1))
          have hks := (keeps_below hq 0).trans ((KeepsOthers.setCell (w6.drewN n) ⟨w2.heap.size, 0, none⟩ (.int .i64 ((c : Int) + 1))).from 0)
          refine ⟨(keeps_below hq _).trans ((KeepsOthers.setCell _ _ _).from _), hbs, ?_, fun D' h => hks.same D' _ (Nat.zero_le _) (hDs D' h) rfl, hB.trans hbs, Nat.le_trans (Nat.le_trans hz hq.size) (by simp)⟩
          have := (kn6.after (below_draws w6 n)).set 0 (.int .i64 ((c : Int) + 1))
          rw [List.length_append, List.length_singleton, ← Nat.add_assoc, hc]
          exact this
        clear hn hB hz hBb hX hRW hDs HP hi hb6 hra kn6 hB3
        gi_wp2_with fail
        refine wpIn_quiet_round (by kernel_rfl) (by kernel_rfl) (fun ⟨_, _, h⟩ => h) (by rfl) ?_
        repeat (go_big_quiet_step (fail))
        refine wpQuiet_nil ?_
        rintro _ ⟨nq, rfl⟩
        gi_wp2_with fail
        exact HFin.out _
    case done2 =>
      rintro D2 ys X hD2 rfl ⟨hn, hDs, hB, hz⟩ hK2
      rw [List.length_finRange] at hn
      have hB3 := HBW.out.trans hB
      have hKD := hDs D (List.mem_singleton.2 rfl)
      have zX := hB3.size
      have HB5 : Hid (RowKit.Below w.heap.size w X) := HB3.out.trans (hB3.mono (by omega))
      have HR5 : Hid (RfAt X base rp (.slice ra V.length rc) V) := HR3.out.below hB3 (fun b hb => (HRl.out b hb))
      have K05 := Lib.hid (K03.out.below hB3 (by omega))
      have K15 := Lib.hid (K13.out.below hB3 (by omega))
      have K25 := Lib.hid (K23.out.below hB3 (by omega))
      have KN5 := Lib.hid hn
      have HK2 := Lib.hid hK2
      have HKD5 := Lib.hid hKD
      clear hn hDs hB hz hK2 hB3 hKD
      go_wp2_with fail
      go_loopw [14, 15] (fun c i wr => ∃ j : Nat, j ≤ V.length ∧ i = .int .i64 j ∧ c = .int .i64 (cntL V s j : Nat) ∧ Hid (RowKit.Below X.heap.size X wr)) (fun c i _ => V.length - (intOf i).toNat)
      case atStart => exact ⟨0, by omega, rfl, rfl, RowKit.Below.refl _ _⟩
      case round =>
        obtain ⟨j, hj, rfl, rfl, HBq⟩ := hrel
        have zq := HBq.out.size
        have hRr := HR5.out.after HBq.out
        have c0 : wr.cell? ⟨rp, 0, none⟩ = some (.slice ra V.length rc) := hRr.blk.cell 0 rfl
        have m0 : wr.cell? ⟨w.heap.size, 0, none⟩ = some (.pointer (some ⟨rp, 0, none⟩)) := (K05.out.after HBq.out).cell 0 rfl
        have m1 : wr.cell? ⟨w.heap.size + 1, 0, none⟩ = some (.int .i64 s) := (K15.out.after HBq.out).cell 0 rfl
        by_cases hlt : j < V.length
        · have hx := List.getElem?_eq_getElem hlt
          obtain ⟨x, hx'⟩ : ∃ x, V[j] = x := ⟨_, rfl⟩
          rw [hx'] at hx
          have hR3 := hRr.recs
          obtain ⟨b, o, hra, _⟩ := hR3 (by omega)
          rw [hra] at hR3 c0
          have HX := Lib.hid hx
          obtain ⟨xs, xc, xk, xd, xn, xm, xp⟩ := x
          have r0 : wr.cell? ⟨b, o + j * 7, none⟩ = some (.int .i64 xs) := RecsAt.cell hR3 rfl hlt hx (j := 0) rfl
          have r1 : wr.cell? ⟨b, o + j * 7 + 1, none⟩ = some (.int .i64 (kindV xc)) := RecsAt.cell hR3 rfl hlt hx (j := 1) rfl
          have r2 : wr.cell? ⟨b, o + j * 7 + 2, none⟩ = some (.int .i64 xk) := RecsAt.cell hR3 rfl hlt hx (j := 2) rfl
          have r3 : wr.cell? ⟨b, o + j * 7 + 3, none⟩ = some (.int .i64 xd) := RecsAt.cell hR3 rfl hlt hx (j := 3) rfl
          have r4 : wr.cell? ⟨b, o + j * 7 + 4, none⟩ = some (.int .i64 xn) := RecsAt.cell hR3 rfl hlt hx (j := 4) rfl
          have r5 : wr.cell? ⟨b, o + j * 7 + 5, none⟩ = some (.int .i64 xm) := RecsAt.cell hR3 rfl hlt hx (j := 5) rfl
          have r6 : wr.cell? ⟨b, o + j * 7 + 6, none⟩ = some (.int .i64 xp) := RecsAt.cell hR3 rfl hlt hx (j := 6) rfl
          have i1 : (0 : Int) ≤ (j : Int) := by omega
          have i2 : (j : Int) < (V.length : Int) := by omega
          obtain ⟨w7, hw7⟩ : ∃ Y, wr.alloc (.cells #[.int .i64 xs, .int .i64 (kindV xc), .int .i64 xk, .int .i64 xd, .int .i64 xn, .int .i64 xm, .int .i64 xp] 56) = Y := ⟨_, rfl⟩
          have hb7 : RowKit.Below wr.heap.size wr w7 := by rw [← hw7]; exact (RowKit.Below.refl _ _).alloc (Nat.le_refl _) _
          have HBq7 := Lib.hid (HBq.out.trans (hb7.mono zq))
          have HP : Hid (Calls Try.prog 28 #[.pointer (some ⟨rp, 0, none⟩), .int .i64 (kindV xc), .int .i64 xk, .int .i64 xd, .int .i64 s] w7 (LatREnd w7 V (xc, xk, xd) s)) := rlat_ok base rp _ V xc xk xd s w7 (hRr.after hb7) (by omega)
          have HW7 := Lib.hid hw7
          have z7 := HBq7.out.size
          have p0 : w7.cell? ⟨w.heap.size, 0, none⟩ = some (.pointer (some ⟨rp, 0, none⟩)) := (K05.out.after HBq7.out).cell 0 rfl
          have p1 : w7.cell? ⟨w.heap.size + 1, 0, none⟩ = some (.int .i64 s) := (K15.out.after HBq7.out).cell 0 rfl
          rw [← hw7] at p0 p1
          obtain ⟨c, hc⟩ : ∃ c, cntL V s j = c := ⟨_, rfl⟩
          have hcs := cntL_succ V s j
          have hcl := cntL_le V s j
          rw [hc] at hcs hcl
          rw [hc]
          have HCs := Lib.hid hcs
          have i4 : IntKind.i64.wrap ((c : Int) + 1) = (c : Int) + 1 := IntWalk.i64_in _ (by omega)
          clear hx hx' hR3 hra hRr hw7 hb7 hcs hc
          by_cases hs : xs ≤ s
          · have e1 : decide (xs ≤ s) = true := decide_eq_true hs
            go_wp2_with fail
            rw [HW7.out]
            with_reducible refine HP.out.mono ?_
            rintro e w8 ⟨i, rfl, hi, hb8⟩
            have hiff := lstB_lat HX.out hs hi
            have HBq8 := Lib.hid (HBq7.out.trans (hb8.mono z7))
            by_cases hb : lstB V s j = true
            · have hij := hiff.2 hb
              subst hij
              have HC1 : Hid (cntL V s (j + 1) = c + 1) := by show _ = _; rw [HCs.out, if_pos hb]
              clear hiff hi hb8 hb hs e1 c0 m0 m1 p0 p1 r0 r1 r2 r3 r4 r5 r6 HP HW7
              go_wp2_with fail
              go_roundw
              case rel => exact ⟨j + 1, by omega, by go_num, by rw [HC1.out]; go_num, HBq8⟩
              case measure => simp [intOf]; omega
            · have e2 : (i == (j : Int)) = false := by rw [beq_eq_false_iff_ne]; exact fun e => hb (hiff.1 e)
              have HC1 : Hid (cntL V s (j + 1) = c) := by show _ = _; rw [HCs.out, if_neg hb, Nat.add_zero]
              clear hiff hi hb8 hb hs e1 c0 m0 m1 p0 p1 r0 r1 r2 r3 r4 r5 r6 HP HW7
              go_wp2_with fail
              go_roundw
              case rel => exact ⟨j + 1, by omega, by go_num, by rw [HC1.out], HBq8⟩
              case measure => simp [intOf]; omega
          · have e1 : decide (xs ≤ s) = false := decide_eq_false hs
            have hb : ¬ lstB V s j = true := fun h => hs ((lstB_iff HX.out).1 h).1
            have HC1 : Hid (cntL V s (j + 1) = c) := by show _ = _; rw [HCs.out, if_neg hb, Nat.add_zero]
            clear hb hs HP
            go_wp2_with fail
            rw [HW7.out]
            go_roundw
            case rel => exact ⟨j + 1, by omega, by go_num, by rw [HC1.out], HBq7⟩
            case measure => simp [intOf]; omega
        · obtain rfl : j = V.length := by omega
          rw [HCnt.out]
          obtain ⟨c, hc⟩ : ∃ c, A.length + C.length = c := ⟨_, rfl⟩
          have k2 := K25.out.after HBq.out
          have kn : Blk wr w2.heap.size #[.int .i64 (c : Int)] 3 := by have := KN5.out.after HBq.out; rwa [hc] at this
          have n1 : wr.cell? ⟨w2.heap.size, 0, none⟩ = some (.int .i64 (c : Int)) := kn.cell 0 rfl
          have m2 : wr.cell? ⟨w.heap.size + 1 + 1, 0, none⟩ = some (.bool false) := k2.cell 0 rfl
          have f2 := k2.free 0
          rw [hc]
          obtain ⟨w9, hw9⟩ : ∃ Y, wr.setCell ⟨w.heap.size + 1 + 1, 0, none⟩ (.bool true) = Y := ⟨_, rfl⟩
          have KF : Hid (Blk w9 (w.heap.size + 1 + 1) #[.bool true] 4) := by rw [← hw9]; exact k2.set 0 _
          have hbq := HB5.out.trans (HBq.out.mono HB5.out.size)
          have HB9 : Hid (RowKit.Below w.heap.size w w9) := by rw [← hw9]; exact below_setCells hbq (by omega) 0 _
          have hD1 : wr.heap[D]? = some (.deferred (some [])) := (HBq.out.block D (Array.getElem?_eq_some_iff.1 HKD5.out).1).trans HKD5.out
          have hD2' : wr.heap[D2]? = some (.deferred (some [])) := (HBq.out.block D2 (Array.getElem?_eq_some_iff.1 HK2.out).1).trans HK2.out
          have HD1 : Hid (w9.heap[D]? = some (.deferred (some []))) := by rw [← hw9]; exact (KeepsOthers.setCell _ _ _).same D _ hD1 rfl
          have HD2 : Hid (w9.heap[D2]? = some (.deferred (some []))) := by rw [← hw9]; exact (KeepsOthers.setCell _ _ _).same D2 _ hD2' rfl
          have HW9 := Lib.hid hw9
          clear hw9 k2 kn hbq hD1 hD2' hRr
          go_wp2_with fail
          rw [HW9.out]
          have hne : D ≠ D2 := by have := (Array.getElem?_eq_some_iff.1 HKD5.out).1; omega
          refine ⟨by simp, .inl ⟨_, _, rfl, run_takeDeferred HD2.out, ?_⟩⟩
          have hD3 : (w9.putObj D2 (.deferred none)).heap[D]? = some (.deferred (some [])) := (World.putObj_heap_other (by omega)).trans HD1.out
          refine ⟨by simp, .inl ⟨_, _, rfl, run_takeDeferred hD3, ?_⟩⟩
          have r0 := cell_kept (KF.out.cell 0 rfl) (grownBy_putObj' w9 D2 (.deferred none)) (fun r e => by cases e; exact ⟨_, HD2.out, rfl⟩)
          have r1 := cell_kept r0 (grownBy_putObj' _ D (.deferred none)) (fun r e => by cases e; exact ⟨_, hD3, rfl⟩)
          exact ⟨.bool true, by simp [results, Try.results33, go_sem, r1], rfl, (HB9.out.trans (belowK_b (w := w) (Nat.le_refl _) _ D2 _ _ (by omega) HD2.out rfl rfl)).trans (belowK_b (w := w) (Nat.le_refl _) _ D _ _ (by omega) hD3 rfl rfl)⟩
    case stop2 =>
      rintro D c pre W _ _ h _
      exact h.elim
  case stop1 =>
    rintro D c pre W _ _ h _
    exact h.elim

end Go.Proofs.Ytkloijkfaooodaa
