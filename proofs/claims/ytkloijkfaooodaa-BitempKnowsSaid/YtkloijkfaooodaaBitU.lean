/- The law's does. -/
import Derived.Test.YtkloijkfaooodaaBitT
import Derived.Test.YtkloijkfaooodaaEqs
import Derived.Test.YtkloijkfaooodaaHeldG
namespace Go.Proofs.Ytkloijkfaooodaa
open Go.RowKit Go.Shelf
set_option linter.unusedVariables false
set_option linter.unusedSimpArgs false
attribute [local go_sem ↓] Go.wp_at_zero Go.wp_at_succ

theorem StAt.kinds {w : World} {base p bm : Nat} {sv : Value} {V : List Vs} (h : StAt w base p bm sv V) : ∀ b ∈ StAt.bs p bm sv, (∃ cur fr, w.heap[b]? = some (.cells cur 83 fr)) ∨ (∃ es c, w.heap[b]? = some (.map es c)) ∨ ∃ cur fr, w.heap[b]? = some (.cells cur 26 fr) := by
  intro b hb
  unfold StAt.bs at hb
  rcases List.mem_cons.1 hb with rfl | hb
  · exact Or.inl ⟨_, _, h.blk⟩
  · rcases List.mem_cons.1 hb with rfl | hb
    · obtain ⟨E, hE⟩ := h.map
      obtain ⟨es, c, h1, _⟩ := hE.map
      exact Or.inr (Or.inl ⟨es, c, h1⟩)
    · obtain ⟨_, _, cur, hc⟩ := own_cells h.own (Option.mem_toList.1 hb)
      exact Or.inr (Or.inr ⟨cur, _, hc⟩)
theorem RfAt.kinds {w : World} {base p : Nat} {sv : Value} {V : List Vs} (h : RfAt w base p sv V) : ∀ b ∈ RfAt.bs p sv, (∃ cur fr, w.heap[b]? = some (.cells cur 48 fr)) ∨ ∃ cur fr, w.heap[b]? = some (.cells cur 56 fr) := by
  intro b hb
  unfold RfAt.bs at hb
  rcases List.mem_cons.1 hb with rfl | hb
  · exact Or.inl ⟨_, _, h.blk⟩
  · obtain ⟨_, _, cur, hc⟩ := own_cells h.own (Option.mem_toList.1 hb)
    exact Or.inr ⟨cur, _, hc⟩
theorem both_apart {w : World} {base base' p bm rp : Nat} {sv rv : Value} {V U : List Vs} (h1 : StAt w base p bm sv V) (h2 : RfAt w base' rp rv U) : ∀ b ∈ StAt.bs p bm sv, b ∉ RfAt.bs rp rv := by
  intro b hb hc
  rcases h1.kinds b hb with ⟨c1, f1, k1⟩ | ⟨c1, f1, k1⟩ | ⟨c1, f1, k1⟩ <;> rcases h2.kinds b hc with ⟨c2, f2, k2⟩ | ⟨c2, f2, k2⟩ <;> rw [k1] at k2 <;> simp at k2
theorem RfAt.notint {w : World} {base p : Nat} {sv : Value} {V : List Vs} (h : RfAt w base p sv V) : ∀ b ∈ RfAt.bs p sv, ∀ cur, w.heap[b]? ≠ some (.cells cur 3 (0, 0)) := by
  intro b hb cur hc
  rcases h.kinds b hb with ⟨c1, f1, k1⟩ | ⟨c1, f1, k1⟩ <;> rw [k1] at hc <;> simp at hc
/-- A store, and the document's. -/
structure Both (w : World) (base p bm : Nat) (sv : Value) (rp : Nat) (rv : Value) (V : List Vs) : Prop where
  st : StAt w base p bm sv V
  rf : RfAt w base rp rv V
def Both.bs (p bm : Nat) (sv : Value) (rp : Nat) (rv : Value) : List Nat := StAt.bs p bm sv ++ RfAt.bs rp rv
theorem Both.after {w w' : World} {base p bm rp : Nat} {sv rv : Value} {V : List Vs} (h : Both w base p bm sv rp rv V) (hb : Below w.heap.size w w') : Both w' base p bm sv rp rv V := ⟨h.st.after hb, h.rf.after hb⟩
theorem RfAt.by_st {w w' : World} {base base' p bm rp : Nat} {sv rv : Value} {V U : List Vs} (h : RfAt w base rp rv V) (hs : StAt w base' p bm sv U) (ht : Turn (StAt.bs p bm sv) w w') : RfAt w' base rp rv V :=
  h.turn ht (fun hb => both_apart hs h _ hb (by simp [RfAt.bs])) fun g hg hb => both_apart hs h _ hb (by unfold RfAt.bs; rw [hg]; simp)
theorem StAt.by_rf {w w' : World} {base base' p bm rp : Nat} {sv rv : Value} {V U : List Vs} (h : StAt w base p bm sv V) (hs : RfAt w base' rp rv U) (ht : Turn (RfAt.bs rp rv) w w') : StAt w' base p bm sv V :=
  h.turn ht (fun hb => both_apart h hs _ (by simp [StAt.bs]) hb) (fun hb => both_apart h hs _ (by simp [StAt.bs]) hb) (fun g hg hb => both_apart h hs _ (by unfold StAt.bs; rw [hg]; simp) hb) hs.notint
theorem Both.bs_ge {w : World} {base p bm rp : Nat} {sv rv : Value} {V : List Vs} (h : Both w base p bm sv rp rv V) : ∀ b ∈ Both.bs p bm sv rp rv, base ≤ b ∧ b < w.heap.size := fun b hb => by
  rcases List.mem_append.1 hb with hb | hb
  · exact ⟨h.st.bs_ge b hb, h.st.bs_lt b hb⟩
  · exact h.rf.bs_lt b hb

/-- What a put of the document's says of a put. -/
theorem lat_both {V : List Vs} {v : Vs} {i : Int} (h1 : putE V v = 0 → latI V v.pl v.s i) (h2 : putE V v ≠ 0 → i = -1) : (i = -1 ∧ oldV V v = none) ∨ ∃ (n : Nat) (o : Vs), i = n ∧ n < V.length ∧ V[n]? = some o ∧ oldV V v = some o := by
  unfold oldV
  by_cases hE : putE V v = 0
  · rw [if_pos hE]
    exact latI_lat (h1 hE)
  · rw [if_neg hE]
    exact Or.inl ⟨h2 hE, rfl⟩
theorem call_ok0 {V : List Vs} {v : Vs} (h : factE v = 0) : callE V v = putE V v.norm ∧ callO V v = oldV V v.norm ∧ callV V v = putV V v.norm := by
  unfold callE callO callV
  rw [if_pos h, if_pos h, if_pos h]
  exact ⟨rfl, rfl, rfl⟩
theorem call_ok1 {V : List Vs} {v : Vs} (h : factE v ≠ 0) : callE V v = factE v ∧ callO V v = none ∧ callV V v = V := by
  unfold callE callO callV
  rw [if_neg h, if_neg h, if_neg h]
  exact ⟨rfl, rfl, rfl⟩
theorem arr_eql (a b c d e f g a' b' c' d' e' f' g' : Int) (w : World) : (binOp .eql 56 (.agg #[.int .i64 a, .int .i64 b, .int .i64 c, .int .i64 d, .int .i64 e, .int .i64 f, .int .i64 g]) (.agg #[.int .i64 a', .int .i64 b', .int .i64 c', .int .i64 d', .int .i64 e', .int .i64 f', .int .i64 g'])).run Try.prog w
    = .ok (.bool (decide ([a, b, c, d, e, f, g] = [a', b', c', d', e', f', g']))) w := by
  obtain ⟨i, hi, _⟩ := info_parts infoInt
  rw [run_eql_struct]
  have := eq_array (P := Try.prog) w (t := 56) Try.underlying56 hi Try.underlying3 (by kernel_rfl) (by kernel_rfl) [a, b, c, d, e, f, g] [a', b', c', d', e', f', g'] rfl rfl
  unfold intC at this
  simp only [List.map_cons, List.map_nil] at this
  rw [this]
  rfl
theorem arr_neq (a b c d e f g a' b' c' d' e' f' g' : Int) (w : World) : (binOp .neq 56 (.agg #[.int .i64 a, .int .i64 b, .int .i64 c, .int .i64 d, .int .i64 e, .int .i64 f, .int .i64 g]) (.agg #[.int .i64 a', .int .i64 b', .int .i64 c', .int .i64 d', .int .i64 e', .int .i64 f', .int .i64 g'])).run Try.prog w
    = .ok (.bool (!decide ([a, b, c, d, e, f, g] = [a', b', c', d', e', f', g']))) w := by
  obtain ⟨i, hi, _⟩ := info_parts infoInt
  rw [run_neq_struct]
  have := eq_array (P := Try.prog) w (t := 56) Try.underlying56 hi Try.underlying3 (by kernel_rfl) (by kernel_rfl) [a, b, c, d, e, f, g] [a', b', c', d', e', f', g'] rfl rfl
  unfold intC at this
  simp only [List.map_cons, List.map_nil] at this
  rw [this]
  rfl

def DoesEnd (w : World) (base p bm : Nat) (sv : Value) (rp : Nat) (rv : Value) (V : List Vs) (v : Vs) (e : Ending) (w' : World) : Prop :=
  ∃ sv2 rv2, e = .returned (.bool true) ∧ Both w' base p bm sv2 rp rv2 (callV V v) ∧ Turn (Both.bs p bm sv rp rv) w w' ∧ (∀ g, sv2.ownBlock = some g → sv.ownBlock = some g ∨ w.heap.size ≤ g) ∧ (∀ g, rv2.ownBlock = some g → rv.ownBlock = some g ∨ w.heap.size ≤ g)
set_option maxHeartbeats 8000000 in
set_option maxRecDepth 100000 in
theorem does_ok (base p bm : Nat) (sv : Value) (rp : Nat) (rv : Value) (V : List Vs) (v : Vs) (hn : I64 v.n) (hm : I64 v.m) (w : World) (hbase : base ≤ w.heap.size) (h : Both w base p bm sv rp rv V) (hl : V.length ≤ 2513169434900) :
    Calls Try.prog 17 #[.pointer (some ⟨p, 0, none⟩), .pointer (some ⟨rp, 0, none⟩), .agg (encS v).toArray] w (DoesEnd w base p bm sv rp rv V v) := by
  have H := Lib.hid h
  obtain ⟨xs, xc, xk, xd, xn, xm, xp⟩ := v
  dsimp only [encS]
  dsimp only at hn hm
  obtain ⟨w0, hw0⟩ : ∃ w0, w.alloc (.cells #[.int .i64 xs, .bool xc, .int .i64 xk, .int .i64 xd, .int .i64 xn, .int .i64 xm, .int .i64 xp] 31) = w0 := ⟨_, rfl⟩
  have hb0 : Below w.heap.size w w0 := by rw [← hw0]; exact (Below.refl _ _).alloc (Nat.le_refl _) _
  have KX : Blk w0 w.heap.size #[.int .i64 xs, .bool xc, .int .i64 xk, .int .i64 xd, .int .i64 xn, .int .i64 xm, .int .i64 xp] 31 := by rw [← hw0]; exact Blk.new _ _ _
  have HW0 := Lib.hid hw0
  have HX0 := Lib.hid KX
  have HB0 := Lib.hid hb0
  have HC : Hid (∀ W, StAt W base p bm sv V → Calls Try.prog 12 #[.pointer (some ⟨p, 0, none⟩), .agg #[.int .i64 xs, .bool xc, .int .i64 xk, .int .i64 xd, .int .i64 xn, .int .i64 xm, .int .i64 xp]] W (CallEnd W base p bm sv V ⟨xs, xc, xk, xd, xn, xm, xp⟩)) := fun W hW => calls_ok base p bm sv V ⟨xs, xc, xk, xd, xn, xm, xp⟩ hn hm W (by have := hW.hp; have := hW.lt.1; omega) hW hl
  have HM : Hid (∀ W, Calls Try.prog 21 #[.agg #[.int .i64 xs, .bool xc, .int .i64 xk, .int .i64 xd, .int .i64 xn, .int .i64 xm, .int .i64 xp]] W (MayVEnd W ⟨xs, xc, xk, xd, xn, xm, xp⟩)) := fun W => may_ok12 ⟨xs, xc, xk, xd, xn, xm, xp⟩ hn hm W
  have hlt : ∀ b ∈ Both.bs p bm sv rp rv, b ≠ w.heap.size := fun b hb e => by have := (h.bs_ge b hb).2; omega
  have HLT := Lib.hid hlt
  have y0 : w0.cell? ⟨w.heap.size, 0, none⟩ = some (.int .i64 xs) := (KX).cell 0 rfl
  have y1 : w0.cell? ⟨w.heap.size, 1, none⟩ = some (.bool xc) := (KX).cell 1 rfl
  have y2 : w0.cell? ⟨w.heap.size, 2, none⟩ = some (.int .i64 xk) := (KX).cell 2 rfl
  have y3 : w0.cell? ⟨w.heap.size, 3, none⟩ = some (.int .i64 xd) := (KX).cell 3 rfl
  have y4 : w0.cell? ⟨w.heap.size, 4, none⟩ = some (.int .i64 xn) := (KX).cell 4 rfl
  have y5 : w0.cell? ⟨w.heap.size, 5, none⟩ = some (.int .i64 xm) := (KX).cell 5 rfl
  have y6 : w0.cell? ⟨w.heap.size, 6, none⟩ = some (.int .i64 xp) := (KX).cell 6 rfl
  rw [← hw0] at y0 y1 y2 y3 y4 y5 y6
  clear hw0 hb0 KX h hlt hn hm
  go_enter Try.func17, Try.ntmps17
  go_wp2_with fail
  rw [HW0.out]
  clear y0 y1 y2 y3 y4 y5 y6
  with_reducible refine (HM.out _).mono ?_
  rintro e w1 ⟨rfl, hb1⟩
  obtain ⟨⟨ns, nc, nk, nd, nn, nm, np⟩, hN⟩ : ∃ n, Vs.norm ⟨xs, xc, xk, xd, xn, xm, xp⟩ = n := ⟨_, rfl⟩
  obtain ⟨E, hE⟩ : ∃ E, factE ⟨xs, xc, xk, xd, xn, xm, xp⟩ = E := ⟨_, rfl⟩
  rw [hN, hE]
  have HN := Lib.hid hN
  have HE := Lib.hid hE
  dsimp only [encS]
  obtain ⟨w2, hww2⟩ : ∃ W, w1.alloc (.cells #[.int .i64 ns, .bool nc, .int .i64 nk, .int .i64 nd, .int .i64 nn, .int .i64 nm, .int .i64 np] 26) = W := ⟨_, rfl⟩
  have hbw2 : Below w1.heap.size w1 w2 := by rw [← hww2]; exact (Below.refl _ _).alloc (Nat.le_refl _) _
  have hkw2 : Hid (Blk w2 w1.heap.size #[.int .i64 ns, .bool nc, .int .i64 nk, .int .i64 nd, .int .i64 nn, .int .i64 nm, .int .i64 np] 26) := by rw [← hww2]; exact Blk.new _ _ _
  have hzw2 := hbw2.size
  have HW2 := Lib.hid hww2
  have hb02 := hb1.trans (hbw2.mono hb1.size)
  have hbw02 := HB0.out.trans (hb02.mono HB0.out.size)
  have HX2 := Lib.hid (HX0.out.after hb02)
  have H2 := Lib.hid (H.out.after hbw02)
  have HB2 := Lib.hid hbw02
  have n0 : w2.cell? ⟨w1.heap.size, 0, none⟩ = some (.int .i64 ns) := (hkw2.out).cell 0 rfl
  have n1 : w2.cell? ⟨w1.heap.size, 1, none⟩ = some (.bool nc) := (hkw2.out).cell 1 rfl
  have n2 : w2.cell? ⟨w1.heap.size, 2, none⟩ = some (.int .i64 nk) := (hkw2.out).cell 2 rfl
  have n3 : w2.cell? ⟨w1.heap.size, 3, none⟩ = some (.int .i64 nd) := (hkw2.out).cell 3 rfl
  have n4 : w2.cell? ⟨w1.heap.size, 4, none⟩ = some (.int .i64 nn) := (hkw2.out).cell 4 rfl
  have n5 : w2.cell? ⟨w1.heap.size, 5, none⟩ = some (.int .i64 nm) := (hkw2.out).cell 5 rfl
  have n6 : w2.cell? ⟨w1.heap.size, 6, none⟩ = some (.int .i64 np) := (hkw2.out).cell 6 rfl
  rw [← hww2] at n0 n1 n2 n3 n4 n5 n6
  clear hww2 hbw2 hkw2 hb02 hbw02 hN hE hb1 HX0 HB0
  by_cases h0 : E = 0
  · subst h0
    go_wp2_with fail
    rw [HW2.out]
    have hpl : ∀ W, Calls Try.prog 29 #[.agg #[.int .i64 ns, .bool nc, .int .i64 nk, .int .i64 nd, .int .i64 nn, .int .i64 nm, .int .i64 np]] W fun e w' => e = .returned (.agg #[.int .i64 ns, .int .i64 (kindV nc), .int .i64 nk, .int .i64 nd, .int .i64 nn, .int .i64 nm, .int .i64 np]) ∧ Below W.heap.size W w' := fun W => plain_ok12 ⟨ns, nc, nk, nd, nn, nm, np⟩ W
    with_reducible refine (hpl _).mono ?_
    clear hpl n0 n1 n2 n3 n4 n5 n6
    rintro e w3 ⟨rfl, hb3⟩
    have H3 := Lib.hid (H2.out.after hb3)
    have HX3 := Lib.hid (HX2.out.after hb3)
    have HB3 := Lib.hid (HB2.out.trans (hb3.mono HB2.out.size))
    clear hb3
    go_wp2_with fail
    have hrp : Calls Try.prog 22 #[.pointer (some ⟨rp, 0, none⟩), .agg #[.int .i64 ns, .int .i64 (kindV nc), .int .i64 nk, .int .i64 nd, .int .i64 nn, .int .i64 nm, .int .i64 np]] w3 (PutREnd w3 base rp rv V ⟨ns, nc, nk, nd, nn, nm, np⟩) := rput_ok base rp rv V ⟨ns, nc, nk, nd, nn, nm, np⟩ w3 (by have := HB3.out.size; omega) H3.out.rf hl
    with_reducible refine hrp.mono ?_
    clear hrp
    rintro e w4 ⟨i, rv2, rfl, hi1, hi2, hrf, htr, hgr⟩
    have HTW : Hid (Turn (Both.bs p bm sv rp rv) w w4) := (Turn.of_below HB3.out).trans (htr.mono fun b hb => List.mem_append_right _ hb)
    have HST := Lib.hid (H3.out.st.by_rf H3.out.rf htr)
    have hx4 := htr.blk HX3.out (fun hb => HLT.out _ (List.mem_append_right _ hb) rfl)
    have HRF := Lib.hid hrf
    have HGR := Lib.hid hgr
    obtain ⟨P, hP⟩ : ∃ P, putE V ⟨ns, nc, nk, nd, nn, nm, np⟩ = P := ⟨_, rfl⟩
    have hcl := call_ok0 (V := V) HE.out
    rw [HN.out] at hcl
    have HCE : Hid (callE V ⟨xs, xc, xk, xd, xn, xm, xp⟩ = P) := hcl.1.trans hP
    have HCV : Hid (callV V ⟨xs, xc, xk, xd, xn, xm, xp⟩ = putV V ⟨ns, nc, nk, nd, nn, nm, np⟩) := hcl.2.2
    have HCO := Lib.hid hcl.2.1
    have y0 : w4.cell? ⟨w.heap.size, 0, none⟩ = some (.int .i64 xs) := (hx4).cell 0 rfl
    have y1 : w4.cell? ⟨w.heap.size, 1, none⟩ = some (.bool xc) := (hx4).cell 1 rfl
    have y2 : w4.cell? ⟨w.heap.size, 2, none⟩ = some (.int .i64 xk) := (hx4).cell 2 rfl
    have y3 : w4.cell? ⟨w.heap.size, 3, none⟩ = some (.int .i64 xd) := (hx4).cell 3 rfl
    have y4 : w4.cell? ⟨w.heap.size, 4, none⟩ = some (.int .i64 xn) := (hx4).cell 4 rfl
    have y5 : w4.cell? ⟨w.heap.size, 5, none⟩ = some (.int .i64 xm) := (hx4).cell 5 rfl
    have y6 : w4.cell? ⟨w.heap.size, 6, none⟩ = some (.int .i64 xp) := (hx4).cell 6 rfl
    have HX4 := Lib.hid hx4
    rcases lat_both hi1 hi2 with ⟨rfl, hO⟩ | ⟨n, o, rfl, hn1, hn2, hO⟩
    · have HO : Hid (callO V ⟨xs, xc, xk, xd, xn, xm, xp⟩ = none) := HCO.out.trans hO
      rw [hP]
      clear hi1 hi2 hO hP hcl hrf htr hgr hx4
      have HV3 : Hid (callV3 V ⟨xs, xc, xk, xd, xn, xm, xp⟩ = .tuple #[.agg #[.int .i64 0, .bool false, .int .i64 0, .int .i64 0, .int .i64 0, .int .i64 0, .int .i64 0], .bool false, .int .i64 P]) := by
        show _ = _
        unfold callV3
        rw [HO.out, HCE.out]
        rfl
      go_wp2_with fail
      with_reducible refine (HC.out w4 HST.out).mono ?_
      rintro e w5 ⟨sv2, rfl, hst, ht, hg⟩
      rw [HV3.out]
      obtain ⟨w6, hw6⟩ : ∃ W, w5.alloc (.cells #[.int .i64 0, .bool false, .int .i64 0, .int .i64 0, .int .i64 0, .int .i64 0, .int .i64 0] 26) = W := ⟨_, rfl⟩
      have hb6 : Below w5.heap.size w5 w6 := by rw [← hw6]; exact (Below.refl _ _).alloc (Nat.le_refl _) _
      have hk6 : Blk w6 w5.heap.size #[.int .i64 0, .bool false, .int .i64 0, .int .i64 0, .int .i64 0, .int .i64 0, .int .i64 0] 26 := by rw [← hw6]; exact Blk.new _ _ _
      have HW6 := Lib.hid hw6
      have hrf5 := HRF.out.by_st HST.out ht
      have HEnd : Hid (∀ n, DoesEnd w base p bm sv rp rv V ⟨xs, xc, xk, xd, xn, xm, xp⟩ (.returned (.bool true)) (w6.drewN n)) := fun n => by
        have hbn := hb6.trans ((below_draws w6 n).mono hb6.size)
        refine ⟨sv2, rv2, rfl, ⟨hst.after hbn, ?_⟩, (HTW.out.trans (ht.mono fun b hb => List.mem_append_left _ hb)).then_below (hbn.mono (by have := HTW.out.size; have := ht.size; omega)), fun g hg' => (hg g hg').imp id (by have := HTW.out.size; omega), (fun g hg' => (HGR.out g hg').imp id (by have := HB3.out.size; omega))⟩
        rw [HCV.out]
        exact hrf5.after hbn
      have z0 : w6.cell? ⟨w5.heap.size, 0, none⟩ = some (.int .i64 0) := hk6.cell 0 rfl
      have z1 : w6.cell? ⟨w5.heap.size, 1, none⟩ = some (.bool false) := hk6.cell 1 rfl
      have z2 : w6.cell? ⟨w5.heap.size, 2, none⟩ = some (.int .i64 0) := hk6.cell 2 rfl
      have z3 : w6.cell? ⟨w5.heap.size, 3, none⟩ = some (.int .i64 0) := hk6.cell 3 rfl
      have z4 : w6.cell? ⟨w5.heap.size, 4, none⟩ = some (.int .i64 0) := hk6.cell 4 rfl
      have z5 : w6.cell? ⟨w5.heap.size, 5, none⟩ = some (.int .i64 0) := hk6.cell 5 rfl
      have z6 : w6.cell? ⟨w5.heap.size, 6, none⟩ = some (.int .i64 0) := hk6.cell 6 rfl
      rw [← hw6] at z0 z1 z2 z3 z4 z5 z6 HEnd
      have heq := fun w => ver_eql 0 false 0 0 0 0 0 0 false 0 0 0 0 0 w
      rw [decide_eq_true rfl] at heq
      clear hw6 hb6 hk6 hst ht hg hrf5
      go_wp2_with (go_quiet (fail))
      go_ret
      exact HEnd.out _
    · obtain ⟨os, oc, ok, od, on, om, op⟩ := o
      have HV3 : Hid (callV3 V ⟨xs, xc, xk, xd, xn, xm, xp⟩ = .tuple #[.agg #[.int .i64 os, .bool oc, .int .i64 ok, .int .i64 od, .int .i64 on, .int .i64 om, .int .i64 op], .bool true, .int .i64 P]) := by
        show _ = _
        unfold callV3
        rw [HCO.out, hO, HCE.out]
        rfl
      have hU : (putV V ⟨ns, nc, nk, nd, nn, nm, np⟩)[n]? = some ⟨os, oc, ok, od, on, om, op⟩ := by
        unfold putV
        split
        · rw [List.getElem?_append_left hn1]
          exact hn2
        · exact hn2
      obtain ⟨U, hUe⟩ : ∃ U, putV V ⟨ns, nc, nk, nd, nn, nm, np⟩ = U := ⟨_, rfl⟩
      have hUl : U.length ≤ 2513169434901 := by rw [← hUe]; unfold putV; split; exact (by rw [List.length_append]; simp; omega); omega
      rw [hUe] at hU HRF HCV
      rw [hP]
      have HU := Lib.hid hU
      clear hi1 hi2 hO hP hcl hrf htr hgr hx4 hn2 hU hUe
      go_wp2_with fail
      with_reducible refine (HC.out w4 HST.out).mono ?_
      rintro e w5 ⟨sv2, rfl, hst, ht, hg⟩
      rw [HV3.out]
      obtain ⟨w6, hww6⟩ : ∃ W, w5.alloc (.cells #[.int .i64 os, .bool oc, .int .i64 ok, .int .i64 od, .int .i64 on, .int .i64 om, .int .i64 op] 26) = W := ⟨_, rfl⟩
      have hbw6 : Below w5.heap.size w5 w6 := by rw [← hww6]; exact (Below.refl _ _).alloc (Nat.le_refl _) _
      have hkw6 : Hid (Blk w6 w5.heap.size #[.int .i64 os, .bool oc, .int .i64 ok, .int .i64 od, .int .i64 on, .int .i64 om, .int .i64 op] 26) := by rw [← hww6]; exact Blk.new _ _ _
      have hzw6 := hbw6.size
      have HW6 := Lib.hid hww6
      have hrf6 := (HRF.out.by_st HST.out ht).after hbw6
      have HEnd : Hid (∀ W, Below w6.heap.size w6 W → DoesEnd w base p bm sv rp rv V ⟨xs, xc, xk, xd, xn, xm, xp⟩ (.returned (.bool true)) W) := fun W hW => by
        have hbn := hbw6.trans (hW.mono hbw6.size)
        refine ⟨sv2, rv2, rfl, ⟨hst.after hbn, ?_⟩, (HTW.out.trans (ht.mono fun b hb => List.mem_append_left _ hb)).then_below (hbn.mono (by have := HTW.out.size; have := ht.size; omega)), fun g hg' => (hg g hg').imp id (by have := HTW.out.size; omega), fun g hg' => (HGR.out g hg').imp id (by have := HB3.out.size; omega)⟩
        rw [HCV.out]
        exact hrf6.after hW
      obtain ⟨ra, rc, hrv, _, _, _, _, hRR⟩ := owned_recs (enc := encR) (size := 7) (fun _ => rfl) hrf6.own rfl
      have hnU : n < U.length := (List.getElem?_eq_some_iff.1 HU.out).1
      obtain ⟨b, o, rfl, _⟩ := hRR (by omega)
      have HSS : Hid (∀ W, Below w6.heap.size w6 W → W.cell? ⟨rp, 0, none⟩ = some (.slice (some ⟨b, o, none⟩) U.length rc) ∧ (W.cell? ⟨w5.heap.size, 0, none⟩ = some (.int .i64 os) ∧ W.cell? ⟨w5.heap.size, 1, none⟩ = some (.bool oc) ∧ W.cell? ⟨w5.heap.size, 2, none⟩ = some (.int .i64 ok) ∧ W.cell? ⟨w5.heap.size, 3, none⟩ = some (.int .i64 od) ∧ W.cell? ⟨w5.heap.size, 4, none⟩ = some (.int .i64 on) ∧ W.cell? ⟨w5.heap.size, 5, none⟩ = some (.int .i64 om) ∧ W.cell? ⟨w5.heap.size, 6, none⟩ = some (.int .i64 op)) ∧ W.cell? ⟨b, o + n * 7, none⟩ = some (.int .i64 os) ∧ W.cell? ⟨b, o + n * 7 + 1, none⟩ = some (.int .i64 (kindV oc)) ∧ W.cell? ⟨b, o + n * 7 + 2, none⟩ = some (.int .i64 ok) ∧ W.cell? ⟨b, o + n * 7 + 3, none⟩ = some (.int .i64 od) ∧ W.cell? ⟨b, o + n * 7 + 4, none⟩ = some (.int .i64 on) ∧ W.cell? ⟨b, o + n * 7 + 5, none⟩ = some (.int .i64 om) ∧ W.cell? ⟨b, o + n * 7 + 6, none⟩ = some (.int .i64 op)) := fun W hW => by
        have h1 := hrf6.blk.after hW
        rw [hrv] at h1
        have h2 := hkw6.out.after hW
        have h3 : RecsAt W (some ⟨b, o, none⟩) 7 encR U := RowsAt.after hRR hW
        exact ⟨h1.cell 0 rfl, ⟨h2.cell 0 rfl, h2.cell 1 rfl, h2.cell 2 rfl, h2.cell 3 rfl, h2.cell 4 rfl, h2.cell 5 rfl, h2.cell 6 rfl⟩, RecsAt.cell h3 rfl hnU HU.out (j := 0) rfl, RecsAt.cell h3 rfl hnU HU.out (j := 1) rfl, RecsAt.cell h3 rfl hnU HU.out (j := 2) rfl, RecsAt.cell h3 rfl hnU HU.out (j := 3) rfl, RecsAt.cell h3 rfl hnU HU.out (j := 4) rfl, RecsAt.cell h3 rfl hnU HU.out (j := 5) rfl, RecsAt.cell h3 rfl hnU HU.out (j := 6) rfl⟩
      have HPl : Hid (∀ W, Calls Try.prog 29 #[.agg #[.int .i64 os, .bool oc, .int .i64 ok, .int .i64 od, .int .i64 on, .int .i64 om, .int .i64 op]] W fun e w' => e = .returned (.agg #[.int .i64 os, .int .i64 (kindV oc), .int .i64 ok, .int .i64 od, .int .i64 on, .int .i64 om, .int .i64 op]) ∧ Below W.heap.size W w') := fun W => plain_ok12 ⟨os, oc, ok, od, on, om, op⟩ W
      have heq := fun w => arr_eql os (kindV oc) ok od on om op os (kindV oc) ok od on om op w
      rw [decide_eq_true rfl] at heq
      have i1 : (0 : Int) ≤ (n : Int) := by omega
      have i2 : (n : Int) < (U.length : Int) := by omega
      clear hww6 hbw6 hkw6 hst ht hg hrf6 hrv hRR y0 y1 y2 y3 y4 y5 y6
      have i3 : decide ((n : Int) < 0) = false := decide_eq_false (by omega)
      have i4 : decide ((0 : Int) ≤ (n : Int)) = true := decide_eq_true i1
      go_wp2_with fail
      rw [HW6.out]
      have bd : Below w6.heap.size w6 w6.drew := (Below.refl _ _).drew
      refine hL_start (fun W => W.cell? ⟨rp, 0, none⟩ = some (.slice (some ⟨b, o, none⟩) U.length rc) ∧ (W.cell? ⟨w5.heap.size, 0, none⟩ = some (.int .i64 os) ∧ W.cell? ⟨w5.heap.size, 1, none⟩ = some (.bool oc) ∧ W.cell? ⟨w5.heap.size, 2, none⟩ = some (.int .i64 ok) ∧ W.cell? ⟨w5.heap.size, 3, none⟩ = some (.int .i64 od) ∧ W.cell? ⟨w5.heap.size, 4, none⟩ = some (.int .i64 on) ∧ W.cell? ⟨w5.heap.size, 5, none⟩ = some (.int .i64 om) ∧ W.cell? ⟨w5.heap.size, 6, none⟩ = some (.int .i64 op)) ∧ W.cell? ⟨b, o + n * 7, none⟩ = some (.int .i64 os) ∧ W.cell? ⟨b, o + n * 7 + 1, none⟩ = some (.int .i64 (kindV oc)) ∧ W.cell? ⟨b, o + n * 7 + 2, none⟩ = some (.int .i64 ok) ∧ W.cell? ⟨b, o + n * 7 + 3, none⟩ = some (.int .i64 od) ∧ W.cell? ⟨b, o + n * 7 + 4, none⟩ = some (.int .i64 on) ∧ W.cell? ⟨b, o + n * 7 + 5, none⟩ = some (.int .i64 om) ∧ W.cell? ⟨b, o + n * 7 + 6, none⟩ = some (.int .i64 op)) (by kernel_rfl) ?_
      have hSd := HSS.out _ bd
      obtain ⟨wd, hwd⟩ : ∃ W, w6.drew = W := ⟨_, rfl⟩
      rw [hwd] at bd hSd ⊢
      clear hwd
      refine hL_take (i := 0) (v := ?_) rfl (by kernel_rfl) (fun _ _ _ h => h) (by rfl) hSd ?_ ?_
      rotate_left 1
      · intro wS hSw
        obtain ⟨s0, ⟨s1, s2, s3, s4, s5, s6, s7⟩, r0, r1, r2, r3, r4, r5, r6⟩ := hSw
        go_simp
        try with_reducible rfl
      try simp only [Act.put, List.setIfInBounds_toArray, List.set_cons_zero, List.set_cons_succ]
      refine hL_take (i := 1) (v := ?_) rfl (by kernel_rfl) (fun _ _ _ h => h) (by rfl) hSd ?_ ?_
      rotate_left 1
      · intro wS hSw
        obtain ⟨s0, ⟨s1, s2, s3, s4, s5, s6, s7⟩, r0, r1, r2, r3, r4, r5, r6⟩ := hSw
        go_simp
        try with_reducible rfl
      try simp only [Act.put, List.setIfInBounds_toArray, List.set_cons_zero, List.set_cons_succ]
      refine hL_take (i := 2) (v := ?_) rfl (by kernel_rfl) (fun _ _ _ h => h) (by rfl) hSd ?_ ?_
      rotate_left 1
      · intro wS hSw
        obtain ⟨s0, ⟨s1, s2, s3, s4, s5, s6, s7⟩, r0, r1, r2, r3, r4, r5, r6⟩ := hSw
        go_simp
        try with_reducible rfl
      try simp only [Act.put, List.setIfInBounds_toArray, List.set_cons_zero, List.set_cons_succ]
      refine hL_skip (i := 3) rfl (by kernel_rfl) (fun _ _ _ h => h) (by rfl) hSd ?_
      try simp only [Act.put, List.setIfInBounds_toArray, List.set_cons_zero, List.set_cons_succ]
      refine hL_skip (i := 4) rfl (by kernel_rfl) (fun _ _ _ h => h) (by rfl) hSd ?_
      try simp only [Act.put, List.setIfInBounds_toArray, List.set_cons_zero, List.set_cons_succ]
      refine hL_skip (i := 5) rfl (by kernel_rfl) (fun _ _ _ h => h) (by rfl) hSd ?_
      try simp only [Act.put, List.setIfInBounds_toArray, List.set_cons_zero, List.set_cons_succ]
      refine hL_take (i := 6) (v := ?_) rfl (by kernel_rfl) (fun _ _ _ h => h) (by rfl) hSd ?_ ?_
      rotate_left 1
      · intro wS hSw
        obtain ⟨s0, ⟨s1, s2, s3, s4, s5, s6, s7⟩, r0, r1, r2, r3, r4, r5, r6⟩ := hSw
        go_simp
        try with_reducible rfl
      try simp only [Act.put, List.setIfInBounds_toArray, List.set_cons_zero, List.set_cons_succ]
      refine hL_take (i := 7) (v := ?_) rfl (by kernel_rfl) (fun _ _ _ h => h) (by rfl) hSd ?_ ?_
      rotate_left 1
      · intro wS hSw
        obtain ⟨s0, ⟨s1, s2, s3, s4, s5, s6, s7⟩, r0, r1, r2, r3, r4, r5, r6⟩ := hSw
        go_simp
        try with_reducible rfl
      try simp only [Act.put, List.setIfInBounds_toArray, List.set_cons_zero, List.set_cons_succ]
      refine hL_take (i := 8) (v := ?_) rfl (by kernel_rfl) (fun _ _ _ h => h) (by rfl) hSd ?_ ?_
      rotate_left 1
      · intro wS hSw
        obtain ⟨s0, ⟨s1, s2, s3, s4, s5, s6, s7⟩, r0, r1, r2, r3, r4, r5, r6⟩ := hSw
        go_simp
        try with_reducible rfl
      try simp only [Act.put, List.setIfInBounds_toArray, List.set_cons_zero, List.set_cons_succ]
      refine hL_take (i := 9) (v := ?_) rfl (by kernel_rfl) (fun _ _ _ h => h) (by rfl) hSd ?_ ?_
      rotate_left 1
      · intro wS hSw
        obtain ⟨s0, ⟨s1, s2, s3, s4, s5, s6, s7⟩, r0, r1, r2, r3, r4, r5, r6⟩ := hSw
        go_simp
        try with_reducible rfl
      try simp only [Act.put, List.setIfInBounds_toArray, List.set_cons_zero, List.set_cons_succ]
      refine hL_take (i := 10) (v := ?_) rfl (by kernel_rfl) (fun _ _ _ h => h) (by rfl) hSd ?_ ?_
      rotate_left 1
      · intro wS hSw
        obtain ⟨s0, ⟨s1, s2, s3, s4, s5, s6, s7⟩, r0, r1, r2, r3, r4, r5, r6⟩ := hSw
        go_simp
        try with_reducible rfl
      try simp only [Act.put, List.setIfInBounds_toArray, List.set_cons_zero, List.set_cons_succ]
      refine hL_take (i := 11) (v := ?_) rfl (by kernel_rfl) (fun _ _ _ h => h) (by rfl) hSd ?_ ?_
      rotate_left 1
      · intro wS hSw
        obtain ⟨s0, ⟨s1, s2, s3, s4, s5, s6, s7⟩, r0, r1, r2, r3, r4, r5, r6⟩ := hSw
        go_simp
        try with_reducible rfl
      try simp only [Act.put, List.setIfInBounds_toArray, List.set_cons_zero, List.set_cons_succ]
      refine hL_take (i := 13) (v := ?_) rfl (by kernel_rfl) (fun _ _ _ h => h) (by rfl) hSd ?_ ?_
      rotate_left 1
      · intro wS hSw
        obtain ⟨s0, ⟨s1, s2, s3, s4, s5, s6, s7⟩, r0, r1, r2, r3, r4, r5, r6⟩ := hSw
        go_simp
        try with_reducible rfl
      try simp only [Act.put, List.setIfInBounds_toArray, List.set_cons_zero, List.set_cons_succ]
      refine hL_take (i := 14) (v := ?_) rfl (by kernel_rfl) (fun _ _ _ h => h) (by rfl) hSd ?_ ?_
      rotate_left 1
      · intro wS hSw
        obtain ⟨s0, ⟨s1, s2, s3, s4, s5, s6, s7⟩, r0, r1, r2, r3, r4, r5, r6⟩ := hSw
        go_simp
        try with_reducible rfl
      try simp only [Act.put, List.setIfInBounds_toArray, List.set_cons_zero, List.set_cons_succ]
      refine hL_take (i := 15) (v := ?_) rfl (by kernel_rfl) (fun _ _ _ h => h) (by rfl) hSd ?_ ?_
      rotate_left 1
      · intro wS hSw
        obtain ⟨s0, ⟨s1, s2, s3, s4, s5, s6, s7⟩, r0, r1, r2, r3, r4, r5, r6⟩ := hSw
        go_simp
        try with_reducible rfl
      try simp only [Act.put, List.setIfInBounds_toArray, List.set_cons_zero, List.set_cons_succ]
      refine hL_take (i := 16) (v := ?_) rfl (by kernel_rfl) (fun _ _ _ h => h) (by rfl) hSd ?_ ?_
      rotate_left 1
      · intro wS hSw
        obtain ⟨s0, ⟨s1, s2, s3, s4, s5, s6, s7⟩, r0, r1, r2, r3, r4, r5, r6⟩ := hSw
        go_simp
        try with_reducible rfl
      try simp only [Act.put, List.setIfInBounds_toArray, List.set_cons_zero, List.set_cons_succ]
      refine hL_take (i := 17) (v := ?_) rfl (by kernel_rfl) (fun _ _ _ h => h) (by rfl) hSd ?_ ?_
      rotate_left 1
      · intro wS hSw
        obtain ⟨s0, ⟨s1, s2, s3, s4, s5, s6, s7⟩, r0, r1, r2, r3, r4, r5, r6⟩ := hSw
        go_simp
        try with_reducible rfl
      try simp only [Act.put, List.setIfInBounds_toArray, List.set_cons_zero, List.set_cons_succ]
      refine hL_take (i := 18) (v := ?_) rfl (by kernel_rfl) (fun _ _ _ h => h) (by rfl) hSd ?_ ?_
      rotate_left 1
      · intro wS hSw
        obtain ⟨s0, ⟨s1, s2, s3, s4, s5, s6, s7⟩, r0, r1, r2, r3, r4, r5, r6⟩ := hSw
        go_simp
        try with_reducible rfl
      try simp only [Act.put, List.setIfInBounds_toArray, List.set_cons_zero, List.set_cons_succ]
      refine hL_take (i := 19) (v := ?_) rfl (by kernel_rfl) (fun _ _ _ h => h) (by rfl) hSd ?_ ?_
      rotate_left 1
      · intro wS hSw
        obtain ⟨s0, ⟨s1, s2, s3, s4, s5, s6, s7⟩, r0, r1, r2, r3, r4, r5, r6⟩ := hSw
        go_simp
        try with_reducible rfl
      try simp only [Act.put, List.setIfInBounds_toArray, List.set_cons_zero, List.set_cons_succ]
      refine hL_next (i := 12) rfl (by kernel_rfl) (fun K hK => ?_)
      go_simp
      with_reducible refine (HPl.out _).mono ?_
      rintro e wf ⟨rfl, hbf⟩
      have bf := bd.trans (hbf.mono bd.size)
      have hSf := HSS.out _ bf
      refine hK.out _ _ (hSf) ?_
      clear hK K
      try simp only [Act.put, List.setIfInBounds_toArray, List.set_cons_zero, List.set_cons_succ]
      refine hL_take (i := 20) (v := ?_) rfl (by kernel_rfl) (fun _ _ _ h => h) (by rfl) hSf ?_ ?_
      rotate_left 1
      · intro wS hSw
        obtain ⟨s0, ⟨s1, s2, s3, s4, s5, s6, s7⟩, r0, r1, r2, r3, r4, r5, r6⟩ := hSw
        go_simp
        try with_reducible rfl
      try simp only [Act.put, List.setIfInBounds_toArray, List.set_cons_zero, List.set_cons_succ]
      refine hL_take (i := 21) (v := ?_) rfl (by kernel_rfl) (fun _ _ _ h => h) (by rfl) hSf ?_ ?_
      rotate_left 1
      · intro wS hSw
        obtain ⟨s0, ⟨s1, s2, s3, s4, s5, s6, s7⟩, r0, r1, r2, r3, r4, r5, r6⟩ := hSw
        go_simp
        try with_reducible rfl
      try simp only [Act.put, List.setIfInBounds_toArray, List.set_cons_zero, List.set_cons_succ]
      refine hL_take (i := 22) (v := ?_) rfl (by kernel_rfl) (fun _ _ _ h => h) (by rfl) hSf ?_ ?_
      rotate_left 1
      · intro wS hSw
        obtain ⟨s0, ⟨s1, s2, s3, s4, s5, s6, s7⟩, r0, r1, r2, r3, r4, r5, r6⟩ := hSw
        go_simp
        try with_reducible rfl
      try simp only [Act.put, List.setIfInBounds_toArray, List.set_cons_zero, List.set_cons_succ]
      refine hL_take (i := 23) (v := ?_) rfl (by kernel_rfl) (fun _ _ _ h => h) (by rfl) hSf ?_ ?_
      rotate_left 1
      · intro wS hSw
        obtain ⟨s0, ⟨s1, s2, s3, s4, s5, s6, s7⟩, r0, r1, r2, r3, r4, r5, r6⟩ := hSw
        go_simp
        try with_reducible rfl
      try simp only [Act.put, List.setIfInBounds_toArray, List.set_cons_zero, List.set_cons_succ]
      refine wpAnyH_done (by kernel_rfl) ?_ _
      go_wp2_with fail
      go_ret
      exact HEnd.out _ bf
  · have HO : Hid (callO V ⟨xs, xc, xk, xd, xn, xm, xp⟩ = none) := (call_ok1 (V := V) (by rw [HE.out]; exact h0)).2.1
    have HCE : Hid (callE V ⟨xs, xc, xk, xd, xn, xm, xp⟩ = E) := (call_ok1 (V := V) (by rw [HE.out]; exact h0)).1.trans HE.out
    have HCV : Hid (callV V ⟨xs, xc, xk, xd, xn, xm, xp⟩ = V) := (call_ok1 (V := V) (by rw [HE.out]; exact h0)).2.2
    have HST := Lib.hid H2.out.st
    have HRF := Lib.hid H2.out.rf
    have HTW : Hid (Turn (Both.bs p bm sv rp rv) w w2) := Turn.of_below HB2.out
    have e0 : (E == 0) = false := by simpa using h0
    have e1 : decide (E = 0) = false := by simpa using h0
    have y0 : w2.cell? ⟨w.heap.size, 0, none⟩ = some (.int .i64 xs) := (HX2.out).cell 0 rfl
    have y1 : w2.cell? ⟨w.heap.size, 1, none⟩ = some (.bool xc) := (HX2.out).cell 1 rfl
    have y2 : w2.cell? ⟨w.heap.size, 2, none⟩ = some (.int .i64 xk) := (HX2.out).cell 2 rfl
    have y3 : w2.cell? ⟨w.heap.size, 3, none⟩ = some (.int .i64 xd) := (HX2.out).cell 3 rfl
    have y4 : w2.cell? ⟨w.heap.size, 4, none⟩ = some (.int .i64 xn) := (HX2.out).cell 4 rfl
    have y5 : w2.cell? ⟨w.heap.size, 5, none⟩ = some (.int .i64 xm) := (HX2.out).cell 5 rfl
    have y6 : w2.cell? ⟨w.heap.size, 6, none⟩ = some (.int .i64 xp) := (HX2.out).cell 6 rfl
    rw [← HW2.out] at y0 y1 y2 y3 y4 y5 y6
    clear h0 n0 n1 n2 n3 n4 n5 n6
    go_wp2_with fail
    rw [HW2.out]
    have HV3 : Hid (callV3 V ⟨xs, xc, xk, xd, xn, xm, xp⟩ = .tuple #[.agg #[.int .i64 0, .bool false, .int .i64 0, .int .i64 0, .int .i64 0, .int .i64 0, .int .i64 0], .bool false, .int .i64 E]) := by
      show _ = _
      unfold callV3
      rw [HO.out, HCE.out]
      rfl
    go_wp2_with fail
    with_reducible refine (HC.out w2 HST.out).mono ?_
    rintro e w5 ⟨sv2, rfl, hst, ht, hg⟩
    rw [HV3.out]
    obtain ⟨w6, hw6⟩ : ∃ W, w5.alloc (.cells #[.int .i64 0, .bool false, .int .i64 0, .int .i64 0, .int .i64 0, .int .i64 0, .int .i64 0] 26) = W := ⟨_, rfl⟩
    have hb6 : Below w5.heap.size w5 w6 := by rw [← hw6]; exact (Below.refl _ _).alloc (Nat.le_refl _) _
    have hk6 : Blk w6 w5.heap.size #[.int .i64 0, .bool false, .int .i64 0, .int .i64 0, .int .i64 0, .int .i64 0, .int .i64 0] 26 := by rw [← hw6]; exact Blk.new _ _ _
    have HW6 := Lib.hid hw6
    have hrf5 := HRF.out.by_st HST.out ht
    have HEnd : Hid (∀ n, DoesEnd w base p bm sv rp rv V ⟨xs, xc, xk, xd, xn, xm, xp⟩ (.returned (.bool true)) (w6.drewN n)) := fun n => by
      have hbn := hb6.trans ((below_draws w6 n).mono hb6.size)
      refine ⟨sv2, rv, rfl, ⟨hst.after hbn, ?_⟩, (HTW.out.trans (ht.mono fun b hb => List.mem_append_left _ hb)).then_below (hbn.mono (by have := HTW.out.size; have := ht.size; omega)), fun g hg' => (hg g hg').imp id (by have := HTW.out.size; omega), (fun g hg' => Or.inl hg')⟩
      rw [HCV.out]
      exact hrf5.after hbn
    have z0 : w6.cell? ⟨w5.heap.size, 0, none⟩ = some (.int .i64 0) := hk6.cell 0 rfl
    have z1 : w6.cell? ⟨w5.heap.size, 1, none⟩ = some (.bool false) := hk6.cell 1 rfl
    have z2 : w6.cell? ⟨w5.heap.size, 2, none⟩ = some (.int .i64 0) := hk6.cell 2 rfl
    have z3 : w6.cell? ⟨w5.heap.size, 3, none⟩ = some (.int .i64 0) := hk6.cell 3 rfl
    have z4 : w6.cell? ⟨w5.heap.size, 4, none⟩ = some (.int .i64 0) := hk6.cell 4 rfl
    have z5 : w6.cell? ⟨w5.heap.size, 5, none⟩ = some (.int .i64 0) := hk6.cell 5 rfl
    have z6 : w6.cell? ⟨w5.heap.size, 6, none⟩ = some (.int .i64 0) := hk6.cell 6 rfl
    rw [← hw6] at z0 z1 z2 z3 z4 z5 z6 HEnd
    have heq := fun w => ver_eql 0 false 0 0 0 0 0 0 false 0 0 0 0 0 w
    rw [decide_eq_true rfl] at heq
    clear hw6 hb6 hk6 hst ht hg hrf5
    go_wp2_with (go_quiet (fail))
    go_ret
    exact HEnd.out _

end Go.Proofs.Ytkloijkfaooodaa
