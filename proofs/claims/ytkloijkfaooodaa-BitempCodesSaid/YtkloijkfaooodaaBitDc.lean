/- The statement BitempDecodes: the walk. -/
import Derived.Test.YtkloijkfaooodaaBitDb
namespace Go.Proofs.Ytkloijkfaooodaa
open Go.RowKit Go.Shelf Go.ChangeShapes Go.WideShapes Go.ChangeAt
set_option linter.unusedVariables false
set_option linter.unusedSimpArgs false

theorem dec_norm {bs : List Int} (h : decB bs = true) : (decV bs).norm = decV bs ∧ encR (decV bs) = (rdA bs).map (Value.int .i64) := by
  unfold decB at h
  by_cases h1 : bs.getD 8 0 = 1
  · rw [if_pos h1] at h
    simp only [decide_eq_true_eq] at h
    constructor
    · unfold Vs.norm decV
      dsimp only
      rw [h1, if_pos (by decide), h.1, h.2]
      rfl
    · unfold encR decV rdA
      dsimp only
      rw [h1]
      rfl
  · rw [if_neg h1] at h
    simp only [Bool.and_eq_true, beq_iff_eq] at h
    have e : (bs.getD 8 0 == 1) = false := by simpa using h1
    constructor
    · unfold Vs.norm decV
      dsimp only
      rw [e, if_neg (by decide), h.2]
    · unfold encR decV rdA
      dsimp only
      rw [e, h.1]
      rfl
set_option maxRecDepth 100000 in
theorem bytes_arg {H : Type} {enc : TypeId × Value → H} {base : Nat} {W : World} {v : Value} {d : DataW H} {p : List MemPlace} (h : DataW.Trod enc Try.prog W 0 (fun _ => true) true 52 v d p) (ok : Value.okWide Try.prog W .any base 52 v) :
    ∃ (a : Option Addr) (cap : Nat) (bs : List Int), v = .slice a bs.length cap ∧ bs.length ≤ cap ∧ cap ≤ 9223372036854775807 ∧ (a = none → bs = []) ∧ RecsAt W a 1 encY bs ∧ IsB bs := by
  obtain ⟨a, len, cap, rfl⟩ := okWide_slice Try.underlying52 ok
  have hl := arg_leaves (d := 2) (ls := [52]) (by kernel_rfl) h
  obtain ⟨c0, cs0, e0, h0, hl⟩ := hl.cons
  obtain rfl := hl.nil
  simp only [Value.cells, List.cons.injEq, and_true] at e0
  subst e0
  have hf : flat Try.prog 6 5 = some [5] := by kernel_rfl
  rcases h0.slice Try.underlying52 hf with e1 | ⟨x, len', cap', e1, g1, g2, hE⟩
  · cases e1
    exact ⟨none, 0, [], rfl, Nat.le_refl _, by omega, fun _ => rfl, RowsAt.nil _ _ _ _, fun x hx => by cases hx⟩
  · cases e1
    obtain ⟨f, hf1, hf2⟩ := elems_rows hE (by simp)
    obtain ⟨g, hg⟩ : ∃ g : Nat → Int, ∀ i, i < len → f i = encY (g i) ∧ 0 ≤ g i ∧ g i ≤ 255 := by
      have : ∀ i, ∃ z : Int, i < len → f i = encY z ∧ 0 ≤ z ∧ z ≤ 255 := fun i => by
        by_cases hi : i < len
        · obtain ⟨c0, cs0, e0, h0, hl⟩ := (hf1 i hi).cons
          obtain rfl := hl.nil
          obtain ⟨z, rfl, hz⟩ := h0.int Try.underlying5
          refine ⟨z, fun _ => ⟨e0, ?_⟩⟩
          simp only [Lit.wf, IntKind.min, IntKind.max, IntKind.signed, IntKind.bits, Bool.and_eq_true, decide_eq_true_eq] at hz
          obtain ⟨z1, z2⟩ := hz
          simp at z1 z2
          omega
        · exact ⟨0, fun h => absurd h hi⟩
      exact ⟨fun i => (this i).choose, fun i => (this i).choose_spec⟩
    have hlen : ((List.range len).map g).length = len := by simp
    have hm : maxLen = 9223372036854775807 := rfl
    refine ⟨some x, cap, (List.range len).map g, by rw [hlen], by rw [hlen]; exact g1, by rw [← hm]; exact g2, (fun e => by cases e), ?_, fun y hy => ?_⟩
    · show RowsAt _ _ _ _ _
      rw [hlen]
      refine hf2.congr fun i hi => ?_
      rw [(hg i hi).1]
      unfold recF
      rw [List.getD_eq_getElem?_getD, List.getElem?_eq_getElem (by simpa using hi)]
      simp
    · obtain ⟨i, hi, rfl⟩ := List.mem_map.1 hy
      exact (hg i (List.mem_range.1 hi)).2

theorem call_zero {V : List Vs} {v : Vs} (h : callE V v = 0) : factE v = 0 ∧ putE V v.norm = 0 := by
  unfold callE at h
  by_cases hf : factE v = 0
  · rw [if_pos hf] at h
    exact ⟨hf, h⟩
  · rw [if_neg hf] at h
    exact absurd h hf
/-- What stands of the law's loop: the error so far. -/
structure DcRel (bs : List Int) (m : Nat) (w1 wr : World) (rp : Nat) (wv : Int) (j : Nat) : Prop where
  good : wv = 0 → (∀ i, i < j → erK bs i = 0) ∧ ∃ rv, RfAt wr w1.heap.size rp rv (VKd bs j)
  bad : wv ≠ 0 → ∃ k, k < m ∧ wv = erK bs k ∧ ∀ i, i < k → erK bs i = 0
  below : Below w1.heap.size w1 wr
def DcFin (bs : List Int) (m : Nat) (w w1 wr : World) (rp : Nat) (wv : Int) (X E : Value) : Prop :=
  (wv = 0 ∧ ∃ p bm sv rv, X = .pointer (some ⟨p, 0, none⟩) ∧ E = .int .i64 0 ∧ StAt wr w.heap.size p bm sv (VKd bs m) ∧ RfAt wr w1.heap.size rp rv (VKd bs m)) ∨ (wv ≠ 0 ∧ X = .pointer none ∧ E = .int .i64 wv)
theorem dc_fin {bs : List Int} {m : Nat} {w w1 wr : World} {rp : Nat} {wv : Int} {X E : Value} {j : Nat} (hm : bs.length = 31 * m) (h : DcRel bs m w1 wr rp wv j) (hd : DecodeEnd w bs (.returned (.tuple #[X, E])) w1) (hj : wv = 0 → j = m) : DcFin bs m w w1 wr rp wv X E := by
  rcases hd.2 with ⟨h1, _⟩ | ⟨m', k, hm', hk, hg, hne, he⟩ | ⟨m', hm', hg, p, bm, sv, he, hst⟩
  · omega
  · obtain rfl : m' = m := by omega
    simp only [Ending.returned.injEq, Value.tuple.injEq, Array.mk.injEq, List.cons.injEq, and_true] at he
    obtain ⟨rfl, rfl⟩ := he
    by_cases hw : wv = 0
    · have := (h.good hw).1 k (by rw [hj hw]; exact hk)
      exact absurd this hne
    · obtain ⟨k', hk', e1, hg'⟩ := h.bad hw
      have : k' = k := by
        rcases Nat.lt_trichotomy k' k with hlt | heq | hgt
        · have := hg k' hlt
          rw [this] at e1
          exact absurd e1 hw
        · exact heq
        · exact absurd (hg' k hgt) hne
      subst this
      exact Or.inr ⟨hw, rfl, by rw [e1]⟩
  · obtain rfl : m' = m := by omega
    simp only [Ending.returned.injEq, Value.tuple.injEq, Array.mk.injEq, List.cons.injEq, and_true] at he
    obtain ⟨rfl, rfl⟩ := he
    by_cases hw : wv = 0
    · obtain ⟨_, rv, hr⟩ := h.good hw
      rw [hj hw] at hr
      exact Or.inl ⟨hw, p, bm, sv, rv, rfl, rfl, hst.after h.below, hr⟩
    · obtain ⟨k', hk', e1, _⟩ := h.bad hw
      rw [hg k' hk'] at e1
      exact absurd e1 hw
set_option maxHeartbeats 8000000 in
set_option maxRecDepth 100000 in
theorem decodes_law (a : Option Addr) (cap : Nat) (bs : List Int) (hcap : bs.length ≤ cap) (hcap2 : cap ≤ 9223372036854775807) (hB : IsB bs) (w : World) (h : RecsAt w a 1 encY bs) :
    Calls Try.prog 5 #[.slice a bs.length cap] w (Tr12 w) := by
  have HR := Lib.hid h
  have HBy := Lib.hid hB
  clear h hB
  by_cases h400 : 400 < bs.length
  · have d1 : decide (400 < bs.length) = true := decide_eq_true h400
    have d2 : decide ((400 : Int) < (bs.length : Int)) = true := decide_eq_true (by omega)
    clear h400
    go_enter Try.func5, Try.ntmps5
    go_wp2_with fail
    with_reducible refine (awake_ok12 _).mono ?_
    rintro e w9 ⟨rfl, hb9⟩
    go_wp2_with fail
    go_ret
    exact ⟨rfl, hb9⟩
  · have d1 : decide (400 < bs.length) = false := decide_eq_false h400
    have d2 : decide ((400 : Int) < (bs.length : Int)) = false := decide_eq_false (by omega)
    have hl : bs.length ≤ 400 := by omega
    clear h400
    go_enter Try.func5, Try.ntmps5
    go_wp2_with fail
    with_reducible refine (Decode_ok a cap bs (by omega) hcap hcap2 HBy.out w HR.out).mono ?_
    intro e w1 hd
    have HDe := Lib.hid hd
    have HB1 := Lib.hid hd.1
    have z1 := hd.1.size
    obtain ⟨w2, hw2⟩ : ∃ W, w1.alloc (.cells #[.slice none 0 0] 48) = W := ⟨_, rfl⟩
    have hb2 : Below w1.heap.size w1 w2 := by rw [← hw2]; exact (Below.refl _ _).alloc (Nat.le_refl _) _
    have HRf2 : Hid (RfAt w2 w1.heap.size w1.heap.size (.slice none 0 0) []) := ⟨by rw [← hw2]; exact Blk.new _ _ _, World.ownsRow_nil _ _ _ _, Nat.le_refl _⟩
    have HW2 := Lib.hid hw2
    have HB12 := Lib.hid hb2
    clear hw2 hb2
    by_cases h31 : bs.length % 31 = 0
    · obtain ⟨m, hm⟩ : ∃ m, bs.length = 31 * m := ⟨bs.length / 31, by omega⟩
      have HM := Lib.hid hm
      have hX : ∃ X E : Value, e = .returned (.tuple #[X, E]) := by
        rcases hd.2 with ⟨_, rfl⟩ | ⟨_, _, _, _, _, _, rfl⟩ | ⟨_, _, _, _, _, _, rfl, _⟩ <;> exact ⟨_, _, rfl⟩
      obtain ⟨X, E, rfl⟩ := hX
      have d3 : ((bs.length : Int) % 31 != 0) = false := by rw [bne_eq_false_iff_eq]; omega
      have hm12 : m ≤ 12 := by omega
      clear h31 hd hm
      go_wp2_with fail
      rw [HW2.out]
      go_loopw [5, 7] (fun wv' i wr => ∃ (j : Nat) (wv : Int), j ≤ m ∧ i = .int .i64 ((31 * j : Nat) : Int) ∧ wv' = .int .i64 wv ∧ Hid (DcRel bs m w1 wr w1.heap.size wv j)) (fun _ i _ => 31 * m + 31 - (intOf i).toNat)
      case atStart => exact ⟨0, 0, by omega, rfl, rfl, ⟨fun _ => ⟨fun i hi => absurd hi (by omega), _, HRf2.out⟩, fun h => absurd rfl h, HB12.out⟩⟩
      case round =>
        obtain ⟨j, wv, hj, rfl, rfl, HRel⟩ := hrel
        obtain ⟨A, hA⟩ : ∃ A, 31 * j = A := ⟨_, rfl⟩
        rw [hA]
        have HA := Lib.hid hA
        have hBr := HRel.out.below
        have HBf := Lib.hid (HB1.out.trans (hBr.mono HB1.out.size))
        have hml := HM.out
        have hA4 : A ≤ 400 := by omega
        by_cases hw : wv = 0
        · subst hw
          by_cases hlt : j < m
          · obtain ⟨hgd, rv, hrf⟩ := HRel.out.good rfl
            have HG := Lib.hid hgd
            have HRf := Lib.hid hrf
            have hlen := VKd_len bs j
            obtain ⟨b, o, ha, _⟩ := HR.out (by omega)
            subst ha
            have hcl := chB_len bs m j hml hlt
            have hra : RecsAt wr (some ⟨b, o + A, none⟩) 1 encY (chB bs j) := by
              have h1 : RecsAt wr (some ⟨b, o, none⟩) 1 encY bs := RowsAt.after HR.out HBf.out
              have h2 := h1.part (31 * j) 31 (by omega)
              unfold chB
              rw [hA] at h2 ⊢
              exact h2
            have HRd := Lib.hid (rread_ok b (o + A) (cap - A) (chB bs j) hcl (by omega) (by omega) (IsB.part HBy.out _ _) wr hra)
            have e1 : (((A : Nat) : Int) + 31).toNat = A + 31 := by omega
            have e2 : A + 31 - A = 31 := by omega
            have n1 : ¬ cap = A := by omega
            have i1 : (0 : Int) ≤ (A : Int) := by omega
            have i2 : (A : Int) + 31 ≤ (bs.length : Int) := by omega
            have i3 : (A : Int) + 31 ≤ (cap : Int) := by omega
            have i4 : (A : Int) ≤ (A : Int) + 31 := by omega
            have dd : decide ((A : Int) + 31 ≤ (bs.length : Int)) = true := decide_eq_true i2
            have hN : I64 (decV (chB bs j)).n ∧ I64 (decV (chB bs j)).m := ⟨rdN_i64 (IsB.part (IsB.part HBy.out _ _) _ _), rdN_i64 (IsB.part (IsB.part HBy.out _ _) _ _)⟩
            have HN := Lib.hid hN
            have HNx : Hid (((31 * (j + 1) : Nat) : Int) = (A : Int) + 31) := by show _ = _; omega
            clear hgd hrf hA hml hBr hra hcl hN
            go_wp2_with fail
            with_reducible refine HRd.out.mono ?_
            rintro e w3 ⟨rfl, hb3⟩
            have HDn := Lib.hid (dec_norm (bs := chB bs j))
            obtain ⟨C, hC⟩ : ∃ C, chB bs j = C := ⟨_, rfl⟩
            have HEr : Hid (erK bs j = if decB C = true then callE (VKd bs j) (decV C) else 13) := by show _ = _; unfold erK; rw [hC]
            have HVk : Hid (VKd bs (j + 1) = callV (VKd bs j) (decV C)) := by show _ = _; rw [VKd_succ, hC]
            rw [hC] at HDn HN ⊢
            have HPa := Lib.hid (show ∃ r0 x8 x9 r1 r2 r3 x30, rdA C = [r0, x8, x9, r1, r2, r3, x30] ∧ decV C = ⟨r0, x8 == 1, x9, r1, r2, r3, x30⟩ from ⟨_, _, _, _, _, _, _, rfl, rfl⟩)
            obtain ⟨r0, x8, x9, r1, r2, r3, x30, hP1, hP2⟩ := HPa.out
            rw [hP1]
            have HP1 := Lib.hid hP1
            have HP2 := Lib.hid hP2
            obtain ⟨c8, h8⟩ : ∃ b, (x8 == 1) = b := ⟨_, rfl⟩
            obtain ⟨D, hD⟩ : ∃ D, decB C = D := ⟨_, rfl⟩
            rw [hD]
            have HD := Lib.hid hD
            simp only [intC, List.map_cons, List.map_nil]
            obtain ⟨w4, hw4⟩ : ∃ W, w3.alloc (.cells #[.int .i64 r0, .int .i64 x8, .int .i64 x9, .int .i64 r1, .int .i64 r2, .int .i64 r3, .int .i64 x30] 56) = W := ⟨_, rfl⟩
            have hb4 : Below w3.heap.size w3 w4 := by rw [← hw4]; exact (Below.refl _ _).alloc (Nat.le_refl _) _
            have hk4 : Blk w4 w3.heap.size #[.int .i64 r0, .int .i64 x8, .int .i64 x9, .int .i64 r1, .int .i64 r2, .int .i64 r3, .int .i64 x30] 56 := by rw [← hw4]; exact Blk.new _ _ _
            have hb34 := hb3.trans (hb4.mono hb3.size)
            have HB4 := Lib.hid (HRel.out.below.trans (hb34.mono HRel.out.below.size))
            have HRf4 := Lib.hid (HRf.out.after hb34)
            have HW4 := Lib.hid hw4
            have HK4 := Lib.hid hk4
            have y0 : w4.cell? ⟨w3.heap.size, 0, none⟩ = some (.int .i64 r0) := hk4.cell 0 rfl
            have y1 : w4.cell? ⟨w3.heap.size, 1, none⟩ = some (.int .i64 x8) := hk4.cell 1 rfl
            have y2 : w4.cell? ⟨w3.heap.size, 2, none⟩ = some (.int .i64 x9) := hk4.cell 2 rfl
            have y3 : w4.cell? ⟨w3.heap.size, 3, none⟩ = some (.int .i64 r1) := hk4.cell 3 rfl
            have y4 : w4.cell? ⟨w3.heap.size, 4, none⟩ = some (.int .i64 r2) := hk4.cell 4 rfl
            have y5 : w4.cell? ⟨w3.heap.size, 5, none⟩ = some (.int .i64 r3) := hk4.cell 5 rfl
            have y6 : w4.cell? ⟨w3.heap.size, 6, none⟩ = some (.int .i64 x30) := hk4.cell 6 rfl
            rw [← hw4] at y0 y1 y2 y3 y4 y5 y6
            clear hP1 hP2 HPa hC hD hw4 hb3 hb4 hb34 hk4 HRd
            cases D with
            | false =>
              have HRel2 : Hid (DcRel bs m w1 w4 w1.heap.size 13 j) := ⟨fun h => absurd h (by decide), fun _ => ⟨j, hlt, by rw [HEr.out, HD.out]; rfl, HG.out⟩, HB4.out⟩
              have hfin := dc_fin HM.out HRel2.out HDe.out (fun h => absurd h (by decide))
              have HBf := Lib.hid (HB1.out.trans (HB4.out.mono HB1.out.size))
              obtain ⟨wv, hwv⟩ : ∃ x : Int, x = 13 := ⟨_, rfl⟩
              rcases hfin with ⟨h, _⟩ | ⟨_, rfl, rfl⟩
              · exact absurd h (by decide)
              · clear hwv y0 y1 y2 y3 y4 y5 y6
                go_wp2_with fail
                rw [HW4.out]
                with_reducible refine (awake_ok12 _).mono ?_
                rintro e w9 ⟨rfl, hb9⟩
                go_wp2_with fail
                go_ret
                exact ⟨rfl, HBf.out.trans (hb9.mono (HBf.out).size)⟩
            | true =>
              go_wp2_with fail
              rw [HW4.out]
              have hmy : ∀ W, Calls Try.prog 21 #[.agg #[.int .i64 r0, .bool c8, .int .i64 x9, .int .i64 r1, .int .i64 r2, .int .i64 r3, .int .i64 x30]] W (MayVEnd W (decV C)) := fun W => by
                have := may_ok12 (decV C) HN.out.1 HN.out.2 W
                rw [HP2.out, ← h8]
                rw [HP2.out] at this
                exact this
              with_reducible refine (hmy _).mono ?_
              rintro e w5 ⟨rfl, hb5⟩
              obtain ⟨⟨ns, nc, nk, nd, nn, nm, np⟩, hN⟩ : ∃ n, (decV C).norm = n := ⟨_, rfl⟩
              obtain ⟨E1, hE1⟩ : ∃ E, factE (decV C) = E := ⟨_, rfl⟩
              rw [hN, hE1]
              have HE1 := Lib.hid hE1
              dsimp only [encS]
              have HB5 := Lib.hid (HB4.out.trans (hb5.mono HB4.out.size))
              have HRf5 := Lib.hid (HRf4.out.after hb5)
              have HK5 := HK4.out.after hb5
              have y0 : w5.cell? ⟨w3.heap.size, 0, none⟩ = some (.int .i64 r0) := HK5.cell 0 rfl
              have y1 : w5.cell? ⟨w3.heap.size, 1, none⟩ = some (.int .i64 x8) := HK5.cell 1 rfl
              have y2 : w5.cell? ⟨w3.heap.size, 2, none⟩ = some (.int .i64 x9) := HK5.cell 2 rfl
              have y3 : w5.cell? ⟨w3.heap.size, 3, none⟩ = some (.int .i64 r1) := HK5.cell 3 rfl
              have y4 : w5.cell? ⟨w3.heap.size, 4, none⟩ = some (.int .i64 r2) := HK5.cell 4 rfl
              have y5 : w5.cell? ⟨w3.heap.size, 5, none⟩ = some (.int .i64 r3) := HK5.cell 5 rfl
              have y6 : w5.cell? ⟨w3.heap.size, 6, none⟩ = some (.int .i64 x30) := HK5.cell 6 rfl
              clear hN hE1 hb5 HK5 hmy h8
              by_cases h0 : E1 = 0
              · subst h0
                go_wp2_with fail
                have hrp : Calls Try.prog 22 #[.pointer (some ⟨w1.heap.size, 0, none⟩), .agg #[.int .i64 r0, .int .i64 x8, .int .i64 x9, .int .i64 r1, .int .i64 r2, .int .i64 r3, .int .i64 x30]] w5 (PutREnd w5 w1.heap.size w1.heap.size rv (VKd bs j) (decV C)) := by
                  have := rput_ok w1.heap.size w1.heap.size rv (VKd bs j) (decV C) w5 HB5.out.size HRf5.out (by omega)
                  rw [(HDn.out HD.out).2, HP1.out] at this
                  exact this
                with_reducible refine hrp.mono ?_
                clear hrp y0 y1 y2 y3 y4 y5 y6
                rintro e w6 ⟨i, rv2, rfl, _, _, hrf6, htr6, _⟩
                obtain ⟨Pv, hPv⟩ : ∃ P, putE (VKd bs j) (decV C) = P := ⟨_, rfl⟩
                rw [hPv]
                have hcal : callE (VKd bs j) (decV C) = Pv := by
                  rw [(call_ok0 (V := VKd bs j) HE1.out).1, (HDn.out HD.out).1, hPv]
                have hcv : VKd bs (j + 1) = putV (VKd bs j) (decV C) := by
                  rw [HVk.out, (call_ok0 (V := VKd bs j) HE1.out).2.2, (HDn.out HD.out).1]
                have hB6 : Below w1.heap.size w1 w6 := HB5.out.trans (htr6.below HB5.out.size (fun b hb => (HRf5.out.bs_lt b hb).1))
                have HRel6 : Hid (DcRel bs m w1 w6 w1.heap.size Pv (j + 1)) := by
                  have her : erK bs j = Pv := by rw [HEr.out, HD.out, if_pos rfl]; exact hcal
                  refine ⟨fun h => ⟨fun i hi => ?_, rv2, by rw [hcv]; exact hrf6⟩, fun h => ⟨j, hlt, her.symm, HG.out⟩, hB6⟩
                  by_cases e : i = j
                  · rw [e, her]; exact h
                  · exact HG.out i (by omega)
                clear hPv hcal hcv hB6 hrf6 htr6
                go_wp2_with fail
                go_roundw
                case rel => exact ⟨j + 1, Pv, by omega, by rw [HNx.out], rfl, HRel6⟩
                case measure => simp [intOf]; have := HA.out; omega
              · have e5 : (E1 == 0) = false := by simpa using h0
                have e6 : decide (E1 = 0) = false := by simpa using h0
                have HRel6 : Hid (DcRel bs m w1 w5 w1.heap.size E1 (j + 1)) := ⟨fun h => absurd h h0, fun h => ⟨j, hlt, by rw [HEr.out, HD.out, if_pos rfl]; exact ((call_ok1 (V := VKd bs j) (by rw [HE1.out]; exact h0)).1.trans HE1.out).symm, HG.out⟩, HB5.out⟩
                clear h0 y0 y1 y2 y3 y4 y5 y6
                go_wp2_with fail
                go_roundw
                case rel => exact ⟨j + 1, E1, by omega, by rw [HNx.out], rfl, HRel6⟩
                case measure => simp [intOf]; have := HA.out; omega
          · obtain rfl : j = m := by omega
            have dd : decide ((A : Int) + 31 ≤ (bs.length : Int)) = false := decide_eq_false (by omega)
            have hfin := dc_fin HM.out HRel.out HDe.out (fun _ => rfl)
            rcases hfin with ⟨_, p, bm, sv, rv, rfl, rfl, hst, hrf⟩ | ⟨hw, _, _⟩
            · have HSt := Lib.hid hst
              have HRf := Lib.hid hrf
              clear hst hrf hA hml hBr
              go_wp2_with fail
              with_reducible refine (same_ok12 w.heap.size w1.heap.size p bm sv w1.heap.size rv (VKd bs j) _ HSt.out HRf.out (by have := VKd_len bs j; omega)).mono ?_
              rintro e w8 ⟨rfl, hb8⟩
              have HB8 := Lib.hid (HBf.out.trans (hb8.mono HBf.out.size))
              clear hb8
              go_wp2_with fail
              with_reducible refine (awake_ok12 _).mono ?_
              rintro e w9 ⟨rfl, hb9⟩
              go_wp2_with fail
              go_ret
              exact ⟨rfl, HB8.out.trans (hb9.mono (HB8.out).size)⟩
            · exact absurd rfl hw
        · have hfin := dc_fin HM.out HRel.out HDe.out (fun h => absurd h hw)
          rcases hfin with ⟨h, _⟩ | ⟨_, rfl, rfl⟩
          · exact absurd h hw
          · have e0 : (wv != 0) = true := by simpa using hw
            have e1 : (wv == 0) = false := by simpa using hw
            clear hw hA hml hBr
            by_cases hlt : j < m
            · have dd : decide ((A : Int) + 31 ≤ (bs.length : Int)) = true := decide_eq_true (by have := HA.out; have := HM.out; omega)
              go_wp2_with fail
              with_reducible refine (awake_ok12 _).mono ?_
              rintro e w9 ⟨rfl, hb9⟩
              go_wp2_with fail
              go_ret
              exact ⟨rfl, HBf.out.trans (hb9.mono (HBf.out).size)⟩
            · have dd : decide ((A : Int) + 31 ≤ (bs.length : Int)) = false := decide_eq_false (by have := HA.out; have := HM.out; omega)
              go_wp2_with fail
              with_reducible refine (awake_ok12 _).mono ?_
              rintro e w9 ⟨rfl, hb9⟩
              go_wp2_with fail
              go_ret
              exact ⟨rfl, HBf.out.trans (hb9.mono (HBf.out).size)⟩
    · have d3 : ((bs.length : Int) % 31 != 0) = true := by rw [bne_iff_ne]; omega
      have he : e = .returned (.tuple #[.pointer none, .int .i64 13]) := by
        rcases hd.2 with ⟨_, rfl⟩ | ⟨m, _, hm, _⟩ | ⟨m, hm, _⟩
        · rfl
        · omega
        · omega
      subst he
      clear h31 hd HDe
      go_wp2_with fail
      rw [HW2.out]
      go_loopw [5, 7] (fun wv' i wr => i = .int .i64 0 ∧ wv' = .int .i64 13 ∧ Hid (w2 = wr)) (fun _ i _ => 0)
      case atStart => exact ⟨rfl, rfl, rfl⟩
      case round =>
        obtain ⟨rfl, rfl, HWr⟩ := hrel
        obtain rfl := HWr.out
        have HBf := Lib.hid (HB1.out.trans (HB12.out.mono HB1.out.size))
        go_wp2_with fail
        all_goals
          with_reducible refine (awake_ok12 _).mono ?_
          rintro e w9 ⟨rfl, hb9⟩
          go_wp2_with fail
          go_ret
          exact ⟨rfl, HBf.out.trans (hb9.mono (HBf.out).size)⟩

set_option maxRecDepth 100000 in
open Go.ChangeShapes Go.WideShapes Go.ChangeAt in
theorem walk_BitempDecodes {H : Type} (enc : TypeId × Value → H) (base : Nat) (W : World) (v : Value) (d : DataW H) (p : List MemPlace) (h : DataW.Trod enc Try.prog W 0 (fun _ => true) true 52 v d p) (ok : Value.okWide Try.prog W .any base 52 v) :
    Calls Try.prog 5 #[v] W fun e w' => e = .returned (.bool true) ∧ Below W.heap.size W w' := by
  obtain ⟨a, cap, bs, rfl, hl, hc, _, hT, hB⟩ := bytes_arg h ok
  exact decodes_law a cap bs hl hc hB W hT

end Go.Proofs.Ytkloijkfaooodaa
