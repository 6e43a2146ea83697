/- The statement BitempKnows: the walk. -/
import Derived.Test.YtkloijkfaooodaaBitKc
import Derived.Test.YtkloijkfaooodaaBitBu
import Derived.Test.YtkloijkfaooodaaBitO
namespace Go.Proofs.Ytkloijkfaooodaa
open Go.RowKit Go.Shelf
set_option linter.unusedVariables false
set_option linter.unusedSimpArgs false

def TrK (w : World) (e : Ending) (w' : World) : Prop := e = .returned (.bool true) ∧ Below w.heap.size w w'
theorem seqV_ge {V : List Vs} (h : GoodV V) : 0 ≤ seqV V := by
  by_cases h0 : V = []
  · subst h0; decide
  · obtain ⟨v, hv, e⟩ := seqV_mem h0
    have := h.pos v hv
    omega
/-- The store behind the later calls: each of a Seq that is greater than T. -/
def upS (T : Int) (v : Vs) : Vs := { v with s := max v.s (T + 1) }
theorem upS_gt (T : Int) (v : Vs) : T < (upS T v).s := by unfold upS; dsimp only; omega
theorem later_run (T : Int) (V : List Vs) (l : List Vs) : ∃ U, runV V (l.map (upS T)) = V ++ U ∧ ∀ u ∈ U, T < u.s := by
  induction l generalizing V with
  | nil => exact ⟨[], by simp [runV], fun u hu => by cases hu⟩
  | cons v l ih =>
    obtain ⟨U1, h1, h2⟩ := call_later (V := V) (upS_gt T v)
    obtain ⟨U2, h3, h4⟩ := ih (V ++ U1)
    refine ⟨U1 ++ U2, ?_, fun u hu => ?_⟩
    · rw [List.map_cons]
      show runV (callV V (upS T v)) _ = _
      rw [h1, h3, List.append_assoc]
    · rcases List.mem_append.1 hu with hu | hu
      · exact h2 u hu
      · exact h4 u hu

theorem FactsAt.turn {w w' : World} {p ba bc : Nat} {A : List Fx} {C : List Ch} {bs : List Nat} (h : FactsAt w p ba bc A C) (ht : Turn bs w w') (h1 : p ∉ bs) (h2 : ba ∉ bs) (h3 : bc ∉ bs) : FactsAt w' p ba bc A C :=
  ⟨ht.blk h.blk h1, h.ma.block (ht.block ba h.ma.lt h2), h.mc.block (ht.block bc h.mc.lt h3), h.ra, h.rc, h.ne⟩
theorem both_mem {p bm rp b : Nat} {sv rv : Value} : b ∈ Both.bs p bm sv rp rv ↔ b = p ∨ b = bm ∨ sv.ownBlock = some b ∨ b = rp ∨ rv.ownBlock = some b := by
  unfold Both.bs StAt.bs RfAt.bs
  simp [Option.mem_toList]
set_option maxHeartbeats 16000000 in
set_option maxRecDepth 100000 in
theorem knows_law (a : Option Addr) (cap : Nat) (l : List Vs) (hl : l.length ≤ 2513169434880) (s0 : Int) (a' : Option Addr) (cap' : Nat) (l' : List Vs) (w : World) (h : VersAt w a l) (h' : VersAt w a' l') :
    Calls Try.prog 8 #[.slice a l.length cap, .int .i64 s0, .slice a' l'.length cap'] w (TrK w) := by
  have HGood : Hid (GoodV (runV [] l)) := runV_good GoodV.nil l
  have HFact : Hid (FactV (runV [] l)) := FactV.run l FactV.nil (fun v hv => ⟨(h.2 v hv).n, (h.2 v hv).m⟩)
  have HV0 := Lib.hid h
  have HM0 := Lib.hid h'
  clear h h'
  go_enter Try.func8, Try.ntmps8
  go_wp2_with fail
  with_reducible refine (built_ok a cap l hl w HV0.out).mono ?_
  rintro e w1 ⟨p, bm, sv, rp, rv, rfl, hbo, hb1⟩
  have z1 := hb1.size
  have HBo := Lib.hid hbo
  have HB1 := Lib.hid hb1
  have HM1 : Hid (VersAt w1 a' l') := ⟨RowsAt.after HM0.out.1 hb1, HM0.out.2⟩
  clear hbo hb1
  by_cases h1 : 40 < l.length
  · have d1 : decide (40 < l.length) = true := decide_eq_true h1
    have d2 : decide ((40 : Int) < (l.length : Int)) = true := decide_eq_true (by omega)
    clear h1
    go_wp2_with fail
    with_reducible refine (awake_ok12 _).mono ?_
    rintro e w99 ⟨rfl, hb99⟩
    go_wp2_with fail
    go_ret
    exact ⟨rfl, HB1.out.trans (hb99.mono HB1.out.size)⟩
  have d1 : decide (40 < l.length) = false := decide_eq_false h1
  have d2 : decide ((40 : Int) < (l.length : Int)) = false := decide_eq_false (by omega)
  by_cases h2 : 40 < l'.length
  · have d3 : decide (40 < l'.length) = true := decide_eq_true h2
    have d4 : decide ((40 : Int) < (l'.length : Int)) = true := decide_eq_true (by omega)
    clear h1 h2
    go_wp2_with fail
    with_reducible refine (awake_ok12 _).mono ?_
    rintro e w99 ⟨rfl, hb99⟩
    go_wp2_with fail
    go_ret
    exact ⟨rfl, HB1.out.trans (hb99.mono HB1.out.size)⟩
  have d3 : decide (40 < l'.length) = false := decide_eq_false h2
  have d4 : decide ((40 : Int) < (l'.length : Int)) = false := decide_eq_false (by omega)
  have hVl : (runV [] l).length ≤ 40 := by have := runV_len [] l; simp at this; omega
  have hl40 : l'.length ≤ 40 := by omega
  obtain ⟨V, hVe⟩ : ∃ V, runV [] l = V := ⟨_, rfl⟩
  rw [hVe] at HBo hVl HGood HFact
  clear h1 h2 hVe
  go_wp2_with fail
  with_reducible refine (bseq_ok w.heap.size p bm sv V w1 HBo.out.st (by omega)).mono ?_
  rintro e w1 ⟨rfl, rfl⟩
  have hT0 := seqV_ge HGood.out
  obtain ⟨T, hT⟩ : ∃ T, seqV V = T := ⟨_, rfl⟩
  have HT := Lib.hid hT
  rw [hT] at hT0 ⊢
  clear hT
  by_cases h60 : 1152921504606846976 < T
  · have d5 : decide (1152921504606846976 < T) = true := decide_eq_true h60
    clear h60
    go_wp2_with fail
    with_reducible refine (awake_ok12 _).mono ?_
    rintro e w99 ⟨rfl, hb99⟩
    go_wp2_with fail
    go_ret
    exact ⟨rfl, HB1.out.trans (hb99.mono HB1.out.size)⟩
  have d5 : decide (1152921504606846976 < T) = false := decide_eq_false h60
  go_wp2_with fail
  with_reducible refine (bseq_ok w.heap.size p bm sv V w1 HBo.out.st (by omega)).mono ?_
  rintro e w1 ⟨rfl, rfl⟩
  rw [HT.out]
  go_wp2_with fail
  have hs : min s0 T ≤ T := Int.min_le_right _ _
  obtain ⟨s, hse⟩ : ∃ s, min s0 T = s := ⟨_, rfl⟩
  rw [hse] at hs ⊢
  have hT60 : T ≤ 1152921504606846976 := by omega
  clear hse h60 d1 d2 d3 d4 d5
  with_reducible refine (asof_ok w.heap.size p bm sv V s w1 HBo.out.st (by omega) HFact.out HGood.out.le).mono ?_
  rintro e w2 ⟨pf, ba, bc, A, C, rfl, hF, hK, hb2, g1, g2, g3⟩
  have hlp := hF.blk.lt
  have hla := hF.ma.lt
  have hlc := hF.mc.lt
  have HAp0 : Hid (∀ b, w1.heap.size ≤ b → b ∉ Both.bs p bm sv rp rv) := fun b hb hm => by have := (HBo.out.bs_ge b hm).2; omega
  have HF2 := Lib.hid hF
  have HK := Lib.hid hK
  have HBo2 := Lib.hid (HBo.out.after hb2)
  have HM2 : Hid (VersAt w2 a' l') := ⟨RowsAt.after HM1.out.1 hb2, HM1.out.2⟩
  have HB2 := Lib.hid (HB1.out.trans (hb2.mono z1))
  have z2 := hb2.size
  clear hF hK hb2
  go_wp2_with fail
  with_reducible refine (knows_ok w.heap.size pf ba bc rp rv A C V s w2 HF2.out HBo2.out.rf HK.out (by omega)).mono ?_
  rintro e w3 ⟨rfl, hb3⟩
  have HF3 := Lib.hid (HF2.out.after hb3)
  have HBo3 := Lib.hid (HBo2.out.after hb3)
  have HM3 : Hid (VersAt w3 a' l') := ⟨RowsAt.after HM2.out.1 hb3, HM2.out.2⟩
  have HB3 := Lib.hid (HB2.out.trans (hb3.mono HB2.out.size))
  have z3 := hb3.size
  clear hb3
  go_wp2_with fail
  with_reducible refine (bseq_ok w.heap.size p bm sv V w3 HBo3.out.st (by omega)).mono ?_
  rintro e w3 ⟨rfl, rfl⟩
  rw [HT.out]
  have i4 : IntKind.i64.wrap (T + 1) = T + 1 := IntWalk.i64_in _ (by omega)
  go_wp2_with fail
  go_loopw [11] (fun i wr => ∃ j : Nat, j ≤ l'.length ∧ i = .int .i64 j ∧ Hid (∃ sv rv, Both wr w.heap.size p bm sv rp rv (runV V ((l'.take j).map (upS T))) ∧ ∀ b, w1.heap.size ≤ b → b < w2.heap.size → b ∉ Both.bs p bm sv rp rv) ∧ Hid (FactsAt wr pf ba bc A C) ∧ Hid (Below w.heap.size w wr) ∧ w3.heap.size ≤ wr.heap.size) (fun i _ => l'.length - (intOf i).toNat)
  case atStart => exact ⟨0, by omega, rfl, ⟨sv, rv, HBo3.out, fun b hb _ => HAp0.out b hb⟩, HF3.out, HB3.out, Nat.le_refl _⟩
  case round =>
    obtain ⟨j, hj, rfl, HBj, HFj, HBr, zr⟩ := hrel
    by_cases hlt : j < l'.length
    · have hx := List.getElem?_eq_getElem hlt
      obtain ⟨x, hy⟩ : ∃ x, l'[j] = x := ⟨_, rfl⟩
      have hxo : x.Ok := by rw [← hy]; exact HM3.out.2 _ (List.getElem_mem _)
      have hTk : l'.take (j + 1) = l'.take j ++ [l'[j]] := List.take_succ_eq_append_getElem hlt
      rw [hy] at hx hTk
      have HX := Lib.hid hxo
      have hRr : RecsAt wr a' 7 encS l' := RowsAt.after HM0.out.1 HBr.out
      obtain ⟨b, o, rfl, _⟩ := hRr (by omega)
      obtain ⟨xs, xc, xk, xd, xn, xm, xp⟩ := x
      have t0 : wr.cell? ⟨b, o + j * 7, none⟩ = some (.int .i64 xs) := RecsAt.cell hRr rfl hlt hx (j := 0) rfl
      have t1 : wr.cell? ⟨b, o + j * 7 + 1, none⟩ = some (.bool xc) := RecsAt.cell hRr rfl hlt hx (j := 1) rfl
      have t2 : wr.cell? ⟨b, o + j * 7 + 2, none⟩ = some (.int .i64 xk) := RecsAt.cell hRr rfl hlt hx (j := 2) rfl
      have t3 : wr.cell? ⟨b, o + j * 7 + 3, none⟩ = some (.int .i64 xd) := RecsAt.cell hRr rfl hlt hx (j := 3) rfl
      have t4 : wr.cell? ⟨b, o + j * 7 + 4, none⟩ = some (.int .i64 xn) := RecsAt.cell hRr rfl hlt hx (j := 4) rfl
      have t5 : wr.cell? ⟨b, o + j * 7 + 5, none⟩ = some (.int .i64 xm) := RecsAt.cell hRr rfl hlt hx (j := 5) rfl
      have t6 : wr.cell? ⟨b, o + j * 7 + 6, none⟩ = some (.int .i64 xp) := RecsAt.cell hRr rfl hlt hx (j := 6) rfl
      obtain ⟨w5, hw5⟩ : ∃ W, wr.alloc (.cells #[.int .i64 (max xs (T + 1)), .bool xc, .int .i64 xk, .int .i64 xd, .int .i64 xn, .int .i64 xm, .int .i64 xp] 31) = W := ⟨_, rfl⟩
      have hb5 : Below wr.heap.size wr w5 := by rw [← hw5]; exact (Below.refl _ _).alloc (Nat.le_refl _) _
      have i1 : (0 : Int) ≤ (j : Int) := by omega
      have i2 : (j : Int) < (l'.length : Int) := by omega
      obtain ⟨sv1, rv1, hbo1, hap1⟩ := HBj.out
      have hlen : (runV V ((l'.take j).map (upS T))).length ≤ 100 := by have := runV_len V ((l'.take j).map (upS T)); rw [List.length_map, List.length_take] at this; omega
      have HTS : Hid (runV V ((l'.take (j + 1)).map (upS T)) = callV (runV V ((l'.take j).map (upS T))) ⟨max xs (T + 1), xc, xk, xd, xn, xm, xp⟩) := by
        show _ = _
        rw [hTk, List.map_append, List.map_singleton, runV_snoc]
        rfl
      obtain ⟨V1, hV1⟩ : ∃ U, runV V ((l'.take j).map (upS T)) = U := ⟨_, rfl⟩
      rw [hV1] at hbo1 hlen HTS
      have HBoth := Lib.hid hbo1
      have HAp1 := Lib.hid hap1
      have hb5' := hb5
      have HD : Hid (Calls Try.prog 17 #[.pointer (some ⟨p, 0, none⟩), .pointer (some ⟨rp, 0, none⟩), .agg #[.int .i64 (max xs (T + 1)), .bool xc, .int .i64 xk, .int .i64 xd, .int .i64 xn, .int .i64 xm, .int .i64 xp]] w5 (DoesEnd w5 w.heap.size p bm sv1 rp rv1 V1 ⟨max xs (T + 1), xc, xk, xd, xn, xm, xp⟩)) := does_ok w.heap.size p bm sv1 rp rv1 V1 ⟨max xs (T + 1), xc, xk, xd, xn, xm, xp⟩ HX.out.n HX.out.m w5 (by have := hb5.size; have := HBr.out.size; omega) (hbo1.after hb5) (by omega)
      have HW5 := Lib.hid hw5
      have HB5 := Lib.hid (HBr.out.trans (hb5.mono HBr.out.size))
      have HF5 := Lib.hid (HFj.out.after hb5)
      have z5 := hb5.size
      clear hw5 hb5 hb5' hbo1 hap1 hV1 hx hy hxo hTk hRr
      go_wp2_with fail
      rw [HW5.out]
      with_reducible refine HD.out.mono ?_
      rintro e w6 ⟨sv2, rv2, rfl, hb6, ht6, hs6, hr6⟩
      have HE : Hid (∃ sv rv, Both w6 w.heap.size p bm sv rp rv (runV V ((l'.take (j + 1)).map (upS T))) ∧ ∀ b, w1.heap.size ≤ b → b < w2.heap.size → b ∉ Both.bs p bm sv rp rv) := by
        refine ⟨sv2, rv2, by rw [HTS.out]; exact hb6, fun b g1 g2 hm => ?_⟩
        have hno := HAp1.out b g1 g2
        rw [both_mem] at hm hno
        rcases hm with h | h | h | h | h
        · exact hno (Or.inl h)
        · exact hno (Or.inr (Or.inl h))
        · rcases hs6 b h with h | h
          · exact hno (Or.inr (Or.inr (Or.inl h)))
          · omega
        · exact hno (Or.inr (Or.inr (Or.inr (Or.inl h))))
        · rcases hr6 b h with h | h
          · exact hno (Or.inr (Or.inr (Or.inr (Or.inr h))))
          · omega
      have HF6 : Hid (FactsAt w6 pf ba bc A C) := HF5.out.turn ht6 (HAp1.out _ g1 hlp) (HAp1.out _ g2 hla) (HAp1.out _ g3 hlc)
      have HB6 := Lib.hid (HB5.out.trans (ht6.below HB5.out.size fun b hb => (HBoth.out.bs_ge b hb).1))
      have z6 := ht6.size
      clear hb6 ht6 hs6 hr6 t0 t1 t2 t3 t4 t5 t6
      go_wp2_with fail
      go_roundw
      case rel => exact ⟨j + 1, by omega, by go_num, HE, HF6, HB6, by omega⟩
      case measure => simp [intOf]; omega
    · obtain rfl : j = l'.length := by omega
      obtain ⟨sv1, rv1, hbo1, _⟩ := HBj.out
      rw [List.take_length] at hbo1
      obtain ⟨U, hU1, hU2⟩ := later_run T V l'
      have hlen : (runV V (l'.map (upS T))).length ≤ 100 := by have := runV_len V (l'.map (upS T)); rw [List.length_map] at this; omega
      have HG1 : Hid (GoodV (runV V (l'.map (upS T)))) := runV_good HGood.out _
      have HF1 : Hid (FactV (runV V (l'.map (upS T)))) := FactV.run _ HFact.out (fun v hv => by
        obtain ⟨u, hu, rfl⟩ := List.mem_map.1 hv
        exact ⟨(HM3.out.2 u hu).n, (HM3.out.2 u hu).m⟩)
      have HK1 : Hid (KnowsP (runV V (l'.map (upS T))) s A C) := by
        show KnowsP _ _ _ _
        rw [hU1]
        exact HK.out.later (fun u hu => by have := hU2 u hu; omega)
      obtain ⟨V1, hV1⟩ : ∃ U, runV V (l'.map (upS T)) = U := ⟨_, rfl⟩
      rw [hV1] at hbo1 hlen HG1 HF1 HK1
      have HBoth := Lib.hid hbo1
      clear hV1 hbo1 hU1 hU2
      go_wp2_with fail
      with_reducible refine (asof_ok w.heap.size p bm sv1 V1 s wr HBoth.out.st (by omega) HF1.out HG1.out.le).mono ?_
      rintro e w7 ⟨pg, bg, cg, A2, C2, rfl, hFg, hKg, hb7, _, _, _⟩
      have HFg := Lib.hid hFg
      have HKg := Lib.hid hKg
      have HF7 := Lib.hid (HFj.out.after hb7)
      have HB7 := Lib.hid (HBoth.out.after hb7)
      have HBe7 := Lib.hid (HBr.out.trans (hb7.mono HBr.out.size))
      clear hFg hKg hb7
      go_wp2_with fail
      with_reducible refine (knows_ok w.heap.size pg bg cg rp rv1 A2 C2 V1 s w7 HFg.out HB7.out.rf HKg.out (by omega)).mono ?_
      rintro e w8 ⟨rfl, hb8⟩
      have HF8 := Lib.hid (HF7.out.after hb8)
      have HB8 := Lib.hid (HB7.out.after hb8)
      have HBe8 := Lib.hid (HBe7.out.trans (hb8.mono HBe7.out.size))
      clear hb8
      go_wp2_with fail
      with_reducible refine (knows_ok w.heap.size pf ba bc rp rv1 A C V1 s w8 HF8.out HB8.out.rf HK1.out (by omega)).mono ?_
      rintro e w9 ⟨rfl, hb9⟩
      have HBe9 := Lib.hid (HBe8.out.trans (hb9.mono HBe8.out.size))
      clear hb9
      go_wp2_with fail
      with_reducible refine (awake_ok12 _).mono ?_
      rintro e w99 ⟨rfl, hb99⟩
      go_wp2_with fail
      go_ret
      exact ⟨rfl, HBe9.out.trans (hb99.mono HBe9.out.size)⟩

set_option maxRecDepth 100000 in
open Go.ChangeShapes Go.WideShapes Go.ChangeAt in
theorem walk_BitempKnows {H : Type} (enc : TypeId × Value → H) (base : Nat) (W : World) (v : Value) (d : DataW H) (p : List MemPlace) (h : DataW.Trod enc Try.prog W 0 (fun _ => true) true 22 v d p) (ok : Value.okWide Try.prog W .any base 22 v)
    (s : Int) (hs : (Lit.int .i64 s).wf = true)
    (v1 : Value) (d1 : DataW H) (p1 : List MemPlace) (h1 : DataW.Trod enc Try.prog W 0 (fun _ => true) true 22 v1 d1 p1) (ok1 : Value.okWide Try.prog W .any base 22 v1)
    {ts : List TypeId} {ds : List (DataW H)} (hsz : (DataW.weightsEach Try.prog (22 :: ts) (d :: ds)).all (· ≤ reachBytes) = true) :
    Calls Try.prog 8 #[v, .int .i64 s, v1] W fun e w' => e = .returned (.bool true) ∧ Below W.heap.size W w' := by
  obtain ⟨a, cap, l, rfl, hl, hc, _, hT⟩ := ops_arg h ok
  obtain ⟨a', cap', l', rfl, hl', hc', _, hT'⟩ := ops_arg h1 ok1
  have hr := slice_reach Try.underlying22 h hsz (j := 0) rfl rfl
  rw [bytesOp] at hr
  exact knows_law a cap l (by omega) s a' cap' l' W hT hT'

end Go.Proofs.Ytkloijkfaooodaa
