/- The statement FactsCopies: its walk. -/
import Derived.Test.YtfimgdjpnlcckaaFacZ
import Derived.Test.YtfimgdjpnlcckaaRangeB
namespace Go.Proofs.Ytfimgdjpnlcckaa
open Go.RowKit Go.Sort Go.Shelf
set_option linter.unusedVariables false
set_option linter.unusedSimpArgs false
attribute [local go_sem] Oper.semAt_some

theorem leave_copies {R : Ending → World → Prop} {a : Act} {w : World} (hd : a.defers = []) (h : ∃ v, (results Try.f7 a.tmps).run Try.prog w = .ok v w ∧ R (.returned v) w) : bodyPostM Fence.wide 5 Try.prog Try.f7 R .ret a w := by
  show LeavesInM Fence.wide 5 Try.prog Try.f7 a.tmps R a.defers .returning w
  rw [hd]
  exact h

theorem FactsAt.below {w w' : World} {p ba bc N : Nat} {A : List Fx} {C : List Ch} (h : FactsAt w p ba bc A C) (hb : Below N w w') (h1 : p < N) (h2 : ba < N) (h3 : bc < N) : FactsAt w' p ba bc A C :=
  ⟨h.blk.below hb h1, h.ma.below hb h2, h.mc.below hb h3, h.ra, h.rc, h.ne⟩
theorem SeqAt.turn {w w' : World} {n₀ Bs size : Nat} {T : TypeId} {α : Type} [Inhabited α] {enc : α → List Value} {l : List α} {bs : List Nat} (h : SeqAt w n₀ Bs size T enc l) (hne : ∀ x, enc x ≠ []) (ht : Turn bs w w') (hn : n₀ ≤ w.heap.size) (hB : Bs ∉ bs) (hm : ∀ b ∈ bs, ∃ es c, w.heap[b]? = some (.map es c)) : SeqAt w' n₀ Bs size T enc l := by
  obtain ⟨a, cap, h1, h2, h3, h4⟩ := h
  refine ⟨a, cap, ht.blk h1 hB, fun hl => ?_, h3, h4⟩
  obtain ⟨b, o, e, hc⟩ := h2 hl
  have hb : b ∉ bs := fun hb => by
    obtain ⟨es, c, hes⟩ := hm b hb
    have h0 : 0 < l.length := hl
    cases hv : recF enc l 0 with
    | nil => exact hne _ hv
    | cons v vs =>
      have := hc 0 h0 0 v (by rw [hv]; rfl)
      simp [World.cell?, hes] at this
  exact ⟨b, o, e, fun i hi j v hv => (World.cell?_of_block (a := ⟨b, o + i * size + j, none⟩) (ht.block b (by have := h4 _ e; simp at this; omega) hb)).trans (hc i hi j v hv)⟩
theorem knownX_mem {A : List Fx} (hA : Rising Fx.ky A) {x : Fx} (hx : x ∈ A) : knownX A x.ky = ((x.n, x.m), true) := by
  unfold knownX
  rw [getK_of hA hx]
def foldS (S : St) (l : List Tl) : St := l.foldl tellS S
theorem foldS_snoc (S : St) (l : List Tl) (x : Tl) : foldS S (l ++ [x]) = tellS (foldS S l) x := by simp [foldS]
theorem foldS_len (S : St) (l : List Tl) : (foldS S l).1.length ≤ S.1.length + l.length ∧ (foldS S l).2.length ≤ S.2.length + l.length := fold_len l S
theorem told_at (p ba bc : Nat) (A : List Fx) (C : List Ch) (x : Tl) (hx : x.Ok) (W : World) (h : FactsAt W p ba bc A C) :
    Calls Try.prog 11 #[.pointer (some ⟨p, 0, none⟩), .agg (encT x).toArray] W fun e w' => e = .returned (.int .i64 (wrongT x)) ∧ Turn [ba, bc] W w' ∧ FactsAt w' p ba bc (tellS (A, C) x).1 (tellS (A, C) x).2 :=
  (tell_ok p ba bc A C x hx W h).mono fun e w' ⟨h1, h2, h3⟩ => ⟨h1, h2, h3⟩
set_option maxHeartbeats 8000000 in
set_option maxRecDepth 100000 in
theorem copies_law (a a' : Option Addr) (cap cap' : Nat) (l m : List Tl) (hl : l.length ≤ 9223372036854775807) (hm : m.length ≤ 9223372036854775807) (w : World) (h : ToldAt w a l) (h' : ToldAt w a' m) :
    Calls Try.prog 7 #[.slice a l.length cap, .slice a' m.length cap'] w (SameEnd w true) := by
  obtain ⟨w0, hw0⟩ : ∃ w0, w.alloc (.cells #[.bool false] 4) = w0 := ⟨_, rfl⟩
  have hb0 : Below w.heap.size w w0 := by rw [← hw0]; exact (Below.refl _ _).alloc (Nat.le_refl _) _
  have KR : Hid (Blk w0 w.heap.size #[.bool false] 4) := by rw [← hw0]; exact Blk.new _ _ _
  have HR := Lib.hid h
  have HM := Lib.hid h'
  have HB0 := Lib.hid hb0
  have HW0 := Lib.hid hw0
  clear h h' hb0 hw0
  refine (callsIn_wide (n := 5)).1 ?_
  refine callsIn_of_wp_marks Try.func7 rfl trivial ?_ rfl
  simp only [Try.ntmps7, List.size_toArray, List.length_cons, List.length_nil, Nat.reduceAdd, Nat.reduceSub, Array.replicate_succ, Array.replicate_zero, List.push_toArray, List.append_toArray, List.nil_append, List.cons_append]
  refine wpIn_wide.2 ?_
  by_cases h40 : 40 < l.length
  · have h40' : decide (40 < (l.length : Int)) = true := decide_eq_true (by omega)
    have h41' : decide (40 < l.length) = true := decide_eq_true h40
    clear h40
    go_wp2_with fail
    rw [HW0.out]
    with_reducible refine (awake_ok _).mono ?_
    rintro e w9 ⟨rfl, hb9⟩
    have hk := KR.out.after hb9
    have k1 := hk.cell 0 rfl
    have k2 := hk.free 0
    have k3 := (hk.set 0 (.bool true)).cell 0 rfl
    have hbx := (HB0.out.trans (hb9.mono HB0.out.size)).setCell (p := ⟨w.heap.size, 0, none⟩) (Nat.le_refl _) (.bool true)
    go_wp2_with fail
    refine leave_copies rfl ⟨.bool true, ?_, rfl, hbx⟩
    simp [results, Try.f7, go_sem, k3]
  have h40' : decide (40 < (l.length : Int)) = false := decide_eq_false (by omega)
  by_cases h20 : 20 < m.length
  · have h20' : decide (20 < (m.length : Int)) = true := decide_eq_true (by omega)
    have h21' : decide (20 < m.length) = true := decide_eq_true h20
    clear h20 h40
    go_wp2_with fail
    rw [HW0.out]
    with_reducible refine (awake_ok _).mono ?_
    rintro e w9 ⟨rfl, hb9⟩
    have hk := KR.out.after hb9
    have k1 := hk.cell 0 rfl
    have k2 := hk.free 0
    have k3 := (hk.set 0 (.bool true)).cell 0 rfl
    have hbx := (HB0.out.trans (hb9.mono HB0.out.size)).setCell (p := ⟨w.heap.size, 0, none⟩) (Nat.le_refl _) (.bool true)
    go_wp2_with fail
    refine leave_copies rfl ⟨.bool true, ?_, rfl, hbx⟩
    simp [results, Try.f7, go_sem, k3]
  have h20' : decide (20 < (m.length : Int)) = false := decide_eq_false (by omega)
  have h41 : l.length ≤ 40 := by omega
  have h21 : m.length ≤ 20 := by omega
  clear h40 h20
  go_wp2_with fail
  rw [HW0.out]
  with_reducible refine (made_ok a cap l hl _ (HR.out.after HB0.out)).mono ?_
  rintro e w1 ⟨p, ba, bc, rfl, hF, hb, g1, g2, g3⟩
  have z0 := HB0.out.size
  have y0 : w.heap.size < w0.heap.size := KR.out.lt
  have HF1 := Lib.hid hF
  have HB1 := Lib.hid (HB0.out.trans (hb.mono z0))
  have KR1 := Lib.hid (KR.out.after hb)
  clear hF hb
  go_wp2_with fail
  with_reducible refine (made_ok a cap l hl _ (HR.out.after HB1.out)).mono ?_
  rintro e w2 ⟨p', ba', bc', rfl, hF, hb, g1', g2', g3'⟩
  have z1 := HB1.out.size
  have HF2 := Lib.hid (HF1.out.after hb)
  have HG2 := Lib.hid hF
  have HB2 := Lib.hid (HB1.out.trans (hb.mono z1))
  have y2 : w1.heap.size ≤ w2.heap.size := hb.size
  have KR2 := Lib.hid (KR1.out.after hb)
  have hlt1 : p < w1.heap.size ∧ ba < w1.heap.size ∧ bc < w1.heap.size := ⟨HF1.out.blk.lt, HF1.out.ma.lt, HF1.out.mc.lt⟩
  have hn := madeS_len l
  have hSO := madeS_ok l
  obtain ⟨S, hS⟩ : ∃ S, madeS l = S := ⟨_, rfl⟩
  rw [hS] at HF2 HG2 hn hSO
  have HS := Lib.hid hS
  have HSO := Lib.hid hSO
  clear hF hb HF1 KR1 hS hSO
  go_wp2_with fail
  with_reducible refine (copy_ok p ba bc S.1 S.2 _ HF2.out).mono ?_
  rintro e w3 ⟨q, qa, qc, rfl, hF, hb, g1'', g2'', g3''⟩
  have z2 := HB2.out.size
  have HF3 := Lib.hid (HF2.out.after hb)
  have HG3 := Lib.hid (HG2.out.after hb)
  have HH3 := Lib.hid hF
  have HB3 := Lib.hid (HB2.out.trans (hb.mono z2))
  have y3 : w2.heap.size ≤ w3.heap.size := hb.size
  have KR3 := Lib.hid (KR2.out.after hb)
  have hlt2 : p' < w2.heap.size ∧ ba' < w2.heap.size ∧ bc' < w2.heap.size := ⟨HG2.out.blk.lt, HG2.out.ma.lt, HG2.out.mc.lt⟩
  have hlt3 : q < w3.heap.size ∧ qa < w3.heap.size ∧ qc < w3.heap.size := ⟨hF.blk.lt, hF.ma.lt, hF.mc.lt⟩
  have z3 := HB3.out.size
  clear hF hb HF2 HG2 KR2
  obtain ⟨w4, hw4⟩ : ∃ W, w3.alloc (.cells #[.pointer (some ⟨q, 0, none⟩)] 23) = W := ⟨_, rfl⟩
  have hb4 : Below w3.heap.size w3 w4 := by rw [← hw4]; exact (Below.refl _ _).alloc (Nat.le_refl _) _
  have z4 : w4.heap.size = w3.heap.size + 1 := by rw [← hw4]; simp
  have KQ4 : Hid (Blk w4 w3.heap.size #[.pointer (some ⟨q, 0, none⟩)] 23) := by rw [← hw4]; exact Blk.new _ _ _
  have HW4 := Lib.hid hw4
  have HF4 := Lib.hid (HF3.out.after hb4)
  have HG4 := Lib.hid (HG3.out.after hb4)
  have HH4 := Lib.hid (HH3.out.after hb4)
  have HB4 := Lib.hid (HB3.out.trans (hb4.mono z3))
  have KR4 := Lib.hid (KR3.out.after hb4)
  clear hw4 hb4 HF3 HG3 HH3 KR3
  go_wp2_with fail
  rw [HW4.out]
  with_reducible refine (seqX_ok p ba bc S.1 S.2 _ HF4.out (by omega)).mono ?_
  rintro e w5 ⟨Bs, rfl, hSQ, hb, hBs⟩
  have HF5 := Lib.hid (HF4.out.after hb)
  have HG5 := Lib.hid (HG4.out.after hb)
  have HH5 := Lib.hid (HH4.out.after hb)
  have HB5 := Lib.hid (HB4.out.trans (hb.mono (by have := HB4.out.size; omega)))
  have KR5 := Lib.hid (KR4.out.after hb)
  have KQ5 := Lib.hid (KQ4.out.after hb)
  have HSQ := Lib.hid hSQ
  have z5 : w4.heap.size ≤ w5.heap.size := hb.size
  clear hSQ hb HF4 HG4 HH4 KR4 KQ4
  have k0 : w5.cell? ⟨w3.heap.size, 0, none⟩ = some (.pointer (some ⟨q, 0, none⟩)) := KQ5.out.cell 0 rfl
  have heq := eqlfX (.func 41) #[] #[.pointer (some ⟨Bs, 0, none⟩)]
  go_wp2_with fail
  with_reducible refine (same_ok q qa qc p' ba' bc' S.1 S.1 S.2 S.2 _ HH5.out HG5.out (by omega) (by omega) (by omega) (by omega)).mono ?_
  rintro e w6 ⟨rfl, hb⟩
  rw [show decide (S.1 = S.1 ∧ S.2 = S.2) = true from decide_eq_true ⟨rfl, rfl⟩]
  have HF6 := Lib.hid (HF5.out.after hb)
  have HG6 := Lib.hid (HG5.out.after hb)
  have HH6 := Lib.hid (HH5.out.after hb)
  have HB6 := Lib.hid (HB5.out.trans (hb.mono (by have := HB5.out.size; omega)))
  have KR6 := Lib.hid (KR5.out.after hb)
  have KQ6 := Lib.hid (KQ5.out.after hb)
  have HSQ6 := Lib.hid (HSQ.out.below hb)
  have z6 : w5.heap.size ≤ w6.heap.size := hb.size
  clear hb HF5 HG5 HH5 KR5 KQ5 HSQ k0 heq
  go_wp2_with fail
  go_loopw [9] (fun i wr => ∃ j : Nat, j ≤ m.length ∧ i = .int .i64 j ∧ Hid (FactsAt wr p ba bc (foldS S (m.take j)).1 (foldS S (m.take j)).2) ∧ Hid (FactsAt wr p' ba' bc' (foldS S (m.take j)).1 (foldS S (m.take j)).2) ∧ Hid (Turn [ba, bc, ba', bc'] w6 wr)) (fun i _ => m.length - (intOf i).toNat)
  case atStart => exact ⟨0, by omega, rfl, HF6, HG6, Turn.refl _ _⟩
  case round =>
    obtain ⟨j, hj, rfl, HFr, HGr, HTr⟩ := hrel
    have zr := HTr.out.size
    have hbr : Hid (Below w.heap.size w6 wr) := HTr.out.below (by omega) (by simp; omega)
    by_cases hlt : j < m.length
    · have hx := List.getElem?_eq_getElem hlt
      obtain ⟨x, hy⟩ : ∃ x, m[j] = x := ⟨_, rfl⟩
      have hxo : x.Ok := by rw [← hy]; exact HM.out.ok _ (List.getElem_mem _)
      have hT : m.take (j + 1) = m.take j ++ [m[j]] := List.take_succ_eq_append_getElem hlt
      rw [hy] at hx hT
      have HX := Lib.hid hxo
      have HT := Lib.hid hT
      have hR : RecsAt wr a' 6 encT m := ((HM.out.after (HB6.out.trans hbr.out)).at_)
      obtain ⟨b, o, rfl, _⟩ := hR (by omega)
      have t0 : wr.cell? ⟨b, o + j * 6, none⟩ = some (.bool x.c) := RecsAt.cell hR rfl hlt hx (j := 0) rfl
      have t1 : wr.cell? ⟨b, o + j * 6 + 1, none⟩ = some (.int .i64 x.k) := RecsAt.cell hR rfl hlt hx (j := 1) rfl
      have t2 : wr.cell? ⟨b, o + j * 6 + 2, none⟩ = some (.int .i64 x.d) := RecsAt.cell hR rfl hlt hx (j := 2) rfl
      have t3 : wr.cell? ⟨b, o + j * 6 + 3, none⟩ = some (.int .i64 x.n) := RecsAt.cell hR rfl hlt hx (j := 3) rfl
      have t4 : wr.cell? ⟨b, o + j * 6 + 4, none⟩ = some (.int .i64 x.m) := RecsAt.cell hR rfl hlt hx (j := 4) rfl
      have t5 : wr.cell? ⟨b, o + j * 6 + 5, none⟩ = some (.int .i64 x.p) := RecsAt.cell hR rfl hlt hx (j := 5) rfl
      clear hx hR hy hT hxo
      obtain ⟨xc, xk, xd, xn, xm, xp⟩ := x
      dsimp only at t0 t1 t2 t3 t4 t5
      have i1 : (0 : Int) ≤ (j : Int) := by omega
      have i2 : (j : Int) < (m.length : Int) := by omega
      have hbw : b < w.heap.size := by
        obtain ⟨b', o', e, hb'⟩ := HM.out.at_.lt (by omega) (by simp [recF, encT])
        cases e
        exact hb'
      have HCF := Lib.hid (told_at p ba bc _ _ _ HX.out _ (HFr.out.after (Below.refl _ _).drew))
      obtain ⟨S1, hS1⟩ : ∃ S1, foldS S (m.take j) = S1 := ⟨_, rfl⟩
      have HCG := Lib.hid (fun W (h : FactsAt W p' ba' bc' S1.1 S1.2) => told_at p' ba' bc' _ _ _ HX.out W h)
      dsimp only [encT] at HCF HCG
      rw [hS1] at HFr HGr HCF
      have HS1 := Lib.hid hS1
      have HSS := Lib.hid (show ∀ w' : World, (∀ q, w'.cell? ⟨b, q, none⟩ = wr.cell? ⟨b, q, none⟩) → w'.cell? ⟨b, o + j * 6, none⟩ = some (.bool xc) ∧ w'.cell? ⟨b, o + j * 6 + 1, none⟩ = some (.int .i64 xk) ∧ w'.cell? ⟨b, o + j * 6 + 2, none⟩ = some (.int .i64 xd) ∧ w'.cell? ⟨b, o + j * 6 + 3, none⟩ = some (.int .i64 xn) ∧ w'.cell? ⟨b, o + j * 6 + 4, none⟩ = some (.int .i64 xm) ∧ w'.cell? ⟨b, o + j * 6 + 5, none⟩ = some (.int .i64 xp) from fun w' h => ⟨(h _).trans t0, (h _).trans t1, (h _).trans t2, (h _).trans t3, (h _).trans t4, (h _).trans t5⟩)
      have HK : Hid (∀ w' : World, Turn [ba, bc, ba', bc'] wr w' → ∀ q, w'.cell? ⟨b, q, none⟩ = wr.cell? ⟨b, q, none⟩) := fun w' h q => World.cell?_of_block (a := ⟨b, q, none⟩) (h.block b (by omega) (by simp; omega))
      clear t0 t1 t2 t3 t4 t5 hS1
      go_wp2_with fail
      go_region_held3 (fun w' => w'.cell? ⟨b, o + j * 6, none⟩ = some (.bool xc) ∧ w'.cell? ⟨b, o + j * 6 + 1, none⟩ = some (.int .i64 xk) ∧ w'.cell? ⟨b, o + j * 6 + 2, none⟩ = some (.int .i64 xd) ∧ w'.cell? ⟨b, o + j * 6 + 3, none⟩ = some (.int .i64 xn) ∧ w'.cell? ⟨b, o + j * 6 + 4, none⟩ = some (.int .i64 xm) ∧ w'.cell? ⟨b, o + j * 6 + 5, none⟩ = some (.int .i64 xp))
        (first | with_reducible exact HSS.out _ (HK.out _ (Turn.of_below (Below.refl _ _).drew)) | with_reducible exact HSS.out _ (HK.out _ hT7) | with_reducible exact HSS.out _ (HK.out _ hT8))
        (first
          | (go_at_call 11; (with_reducible refine HCF.out.mono ?_); rintro e w7 ⟨rfl, ht7, hF7⟩; have hT7 : Turn [ba, bc, ba', bc'] wr w7 := (Turn.of_below (Below.refl _ wr).drew).trans (ht7.mono (by simp)); have hG7 := ht7.facts (HGr.out.after (Below.refl _ _).drew) (by simp; omega) (by simp; omega) (by simp; omega))
          | (go_at_call 11; (with_reducible refine (HCG.out _ hG7).mono ?_); rintro e w8 ⟨rfl, ht8, hG8⟩; have hT8 : Turn [ba, bc, ba', bc'] wr w8 := hT7.trans (ht8.mono (by simp)); have hF8 := ht8.facts hF7 (by simp; omega) (by simp; omega) (by simp; omega)))
      have HSN : Hid (foldS S (m.take (j + 1)) = tellS S1 ⟨xc, xk, xd, xn, xm, xp⟩) := by show _ = _; rw [HT.out, foldS_snoc, HS1.out]
      have HF8 : Hid (FactsAt w8 p ba bc (foldS S (m.take (j + 1))).1 (foldS S (m.take (j + 1))).2) := by show FactsAt _ _ _ _ _ _; rw [HSN.out]; exact hF8
      have HG8 : Hid (FactsAt w8 p' ba' bc' (foldS S (m.take (j + 1))).1 (foldS S (m.take (j + 1))).2) := by show FactsAt _ _ _ _ _ _; rw [HSN.out]; exact hG8
      have HT8 : Hid (Turn [ba, bc, ba', bc'] w6 w8) := HTr.out.trans hT8
      clear hF8 hG8 hT8 hF7 hG7 hT7 ht7 ht8 HSS HK
      go_wp2_with fail
      go_roundw
      case rel => exact ⟨j + 1, by omega, by go_num, HF8, HG8, HT8⟩
      case measure => simp [intOf]; omega
    · obtain rfl : j = m.length := by omega
      rw [List.take_length] at HFr HGr
      have hfl := foldS_len S m
      obtain ⟨S1, hS1⟩ : ∃ S1, foldS S m = S1 := ⟨_, rfl⟩
      rw [hS1] at HFr HGr hfl
      have HHr : Hid (FactsAt wr q qa qc S.1 S.2) := HTr.out.facts HH6.out (by simp; omega) (by simp; omega) (by simp; omega)
      have HBr := Lib.hid (HB6.out.trans hbr.out)
      have KRr : Hid (Blk wr w.heap.size #[.bool false] 4) := HTr.out.blk KR6.out (by simp; omega)
      have KQr : Hid (Blk wr w3.heap.size #[.pointer (some ⟨q, 0, none⟩)] 23) := HTr.out.blk KQ6.out (by simp; omega)
      have HSQr : Hid (SeqAt wr w6.heap.size Bs 4 36 encX S.1) := (HSQ6.out.mono (by omega)).turn (fun x => by simp [encX]) HTr.out (Nat.le_refl _) (by simp; omega) (by
        intro b hb
        simp only [List.mem_cons, List.not_mem_nil, or_false] at hb
        rcases hb with rfl | rfl | rfl | rfl
        · obtain ⟨es, c, h, _⟩ := HF6.out.ma; exact ⟨es, c, h⟩
        · obtain ⟨es, c, h, _⟩ := HF6.out.mc; exact ⟨es, c, h⟩
        · obtain ⟨es, c, h, _⟩ := HG6.out.ma; exact ⟨es, c, h⟩
        · obtain ⟨es, c, h, _⟩ := HG6.out.mc; exact ⟨es, c, h⟩)
      clear HTr HF6 HG6 HH6 KR6 KQ6 hS1
      go_wp2_with fail
      with_reducible refine (made_ok a cap l hl _ (HR.out.after HBr.out)).mono ?_
      rintro e w7 ⟨k, ka, kc, rfl, hF, hb, g4, g5, g6⟩
      have zr2 := HBr.out.size
      have HFk := Lib.hid (HFr.out.after hb)
      have HGk := Lib.hid (HGr.out.after hb)
      have HHk := Lib.hid (HHr.out.after hb)
      have HKk := Lib.hid hF
      rw [HS.out] at HKk
      have HBk := Lib.hid (HBr.out.trans (hb.mono zr2))
      have KRk := Lib.hid (KRr.out.after hb)
      have KQk := Lib.hid (KQr.out.after hb)
      have zk : wr.heap.size ≤ w7.heap.size := hb.size
      have hbk := hb
      have lF : p < w7.heap.size ∧ ba < w7.heap.size ∧ bc < w7.heap.size := ⟨HFk.out.blk.lt, HFk.out.ma.lt, HFk.out.mc.lt⟩
      have lG : p' < w7.heap.size ∧ ba' < w7.heap.size ∧ bc' < w7.heap.size := ⟨HGk.out.blk.lt, HGk.out.ma.lt, HGk.out.mc.lt⟩
      have lH : q < w7.heap.size ∧ qa < w7.heap.size ∧ qc < w7.heap.size := ⟨HHk.out.blk.lt, HHk.out.ma.lt, HHk.out.mc.lt⟩
      have lK : k < w7.heap.size ∧ ka < w7.heap.size ∧ kc < w7.heap.size := ⟨HKk.out.blk.lt, HKk.out.ma.lt, HKk.out.mc.lt⟩
      clear hF hb HFr HGr HHr KRr KQr
      go_wp2_with fail
      obtain ⟨w8, hw8⟩ : ∃ W, w7.alloc (.cells #[.int .i64 0] 3) = W := ⟨_, rfl⟩
      rw [hw8]
      have hb8 : Below w7.heap.size w7 w8 := by rw [← hw8]; exact (Below.refl _ _).alloc (Nat.le_refl _) _
      have z8 : w8.heap.size = w7.heap.size + 1 := by rw [← hw8]; simp
      have KN : Blk w8 w7.heap.size #[.int .i64 0] 3 := by rw [← hw8]; exact Blk.new _ _ _
      have HF8 := Lib.hid (HFk.out.after hb8)
      have HG8 := Lib.hid (HGk.out.after hb8)
      have HH8 := Lib.hid (HHk.out.after hb8)
      have HK8 := Lib.hid (HKk.out.after hb8)
      have HB8 := Lib.hid (HBk.out.trans (hb8.mono (by omega)))
      have KR8 := Lib.hid (KRk.out.after hb8)
      have KQ8 := Lib.hid (KQk.out.after hb8)
      have HSQ8 : Hid (SeqAt w8 w6.heap.size Bs 4 36 encX S.1) := (HSQr.out.below (hbk.mono (by omega))).below (hb8.mono (by omega))
      clear hw8 hb8 hbk HFk HGk HHk HKk HBk KRk KQk HSQ6 HSQr
      refine wpIn_wide (n := 5) |>.1 ?_
      refine wpIn_range_box rfl (by omega) (gf := 41) (lb := #[.pointer (some ⟨Bs, 0, none⟩)]) rfl trivial (enters_of Try.func41 (by kernel_rfl) rfl)
        (valX_stops _ (by omega) w6.heap.size Bs S.1 (by omega) w8 HSQ8.out (by omega)) belowK_t (belowK_b (by omega)) (Below.refl _ _) (fun _ => rfl)
        (fun (pre : List Fx) W => (Blk W w7.heap.size #[.int .i64 (pre.length : Int)] 3 ∧ Blk W w.heap.size #[.bool false] 4) ∧ (Below w7.heap.size w8 W))
        (fun c pre W => ¬ ∀ x ∈ pre, knownX S.1 x.ky = ((x.n, x.m), true))
        (OwnFrom.and (OwnFrom.and (Own.from (blk_own _ (fun (pre : List Fx) => #[.int .i64 (pre.length : Int)]) _) _) (Own.from (blk_own _ (fun _ => #[.bool false]) _) _)) (ownFrom_below (by omega) (by omega)))
        (fun c => ownFrom_pure _ _)
        ⟨⟨KN, KR8.out⟩, Below.refl _ _⟩
        41 encX 12 w8.heap.size (fun pre W h => h.2.size) (fun pre W o h => (Below.refl _ _).alloc (by have := h.2.size; omega) _)
        ?assign ?body ?done ?stop
      case assign =>
        intro l pre x W K hI hK
        have hK' := Lib.hid hK
        clear hK hI
        obtain ⟨xk, xd, xn, xm⟩ := x
        dsimp only [encVX, encX] at hK' ⊢
        gi_wp2_with fail
        simpa [boxAct, encX] using hK'.out
      case body =>
        rintro l pre x Bx W hl ⟨r, hr⟩ ⟨⟨hN, hR⟩, hB⟩ hBx hX hlt
        have zW := hB.size
        have HHW : Hid (FactsAt W q qa qc S.1 S.2) := (HH8.out.below hB lH.1 lH.2.1 lH.2.2)
        have hQ : Blk W w3.heap.size #[.pointer (some ⟨q, 0, none⟩)] 23 := KQ8.out.below hB (by omega)
        have c0 : W.cell? ⟨w7.heap.size, 0, none⟩ = some (.int .i64 (pre.length : Int)) := hN.cell 0 rfl
        have c1 := hN.free 0
        have HW1 := Lib.hid (hN.set 0 (.int .i64 ((pre.length : Int) + 1)))
        have hpl : pre.length ≤ 60 := by omega
        obtain ⟨xk, xd, xn, xm⟩ := x
        dsimp only [encX] at hX
        simp [boxAct, encX]
        obtain ⟨w9, hw9⟩ : ∃ W', W.setCell ⟨w7.heap.size, 0, none⟩ (.int .i64 ((pre.length : Int) + 1)) = W' := ⟨_, rfl⟩
        rw [hw9] at HW1
        have hg9 : W.grownBy w9 (some w7.heap.size) := by rw [← hw9]; exact grown_setCell _ _ _ _
        have h9s : w9.heap.size = W.heap.size := by rw [← hw9]; simp [World.setCell]
        have HB9 : Hid (Below w7.heap.size w8 w9) := by rw [← hw9]; exact hB.setCell (p := ⟨w7.heap.size, 0, none⟩) (Nat.le_refl _) _
        have HKB9 : Hid (Below w7.heap.size W w9) := by rw [← hw9]; exact (Below.refl _ _).setCell (p := ⟨w7.heap.size, 0, none⟩) (Nat.le_refl _) _
        have HK9 : Hid (KeepsOthers W w9) := by rw [← hw9]; exact KeepsOthers.setCell _ _ _
        have hX9 := hX.grown hg9 (by simp; omega)
        have HR9 := Lib.hid (hR.grown hg9 (by simp; omega))
        have hQ9 := hQ.grown hg9 (by simp; omega)
        have HH9 := Lib.hid (HHW.out.kept hg9 (by simp; omega) (by simp; omega) (by simp; omega))
        have q0 : w9.cell? ⟨w3.heap.size, 0, none⟩ = some (.pointer (some ⟨q, 0, none⟩)) := hQ9.cell 0 rfl
        have x0 : w9.cell? ⟨Bx, 0, none⟩ = some (.int .i64 xk) := hX9.cell 0 rfl
        have x1 : w9.cell? ⟨Bx, 1, none⟩ = some (.int .i64 xd) := hX9.cell 1 rfl
        have HX9 := Lib.hid hX9
        have HB := Lib.hid hB
        clear hg9 hX hX9 hQ hQ9 hN hR hB HHW
        gi_wp2_with fail
        clear hw9
        refine ⟨trivial, ?_⟩
        (with_reducible refine (CallsIn.inRound l (callsIn_wide.2 (fixing_ok q qa qc _ _ xk xd _ HH9.out))).mono ?_)
        rintro e w10 ⟨rfl, hb10⟩
        obtain ⟨⟨⟨vn, vm⟩, vb⟩, hV⟩ : ∃ V, knownX S.1 (xk, xd) = V := ⟨_, rfl⟩
        rw [hV]
        dsimp only
        have HV := Lib.hid hV
        obtain ⟨w11, hw11⟩ : ∃ W', w10.alloc (.cells #[.int .i64 vn, .int .i64 vm] 29) = W' := ⟨_, rfl⟩
        have hb11 : Below w10.heap.size w10 w11 := by rw [← hw11]; exact (Below.refl _ _).alloc (Nat.le_refl _) _
        have hV11 : Blk w11 w10.heap.size #[.int .i64 vn, .int .i64 vm] 29 := by rw [← hw11]; exact Blk.new _ _ _
        have hb9 : Below w9.heap.size w9 w11 := hb10.trans (hb11.mono hb10.size)
        have hX11 := HX9.out.after hb9
        have hN11 := HW1.out.after hb9
        have hR11 := HR9.out.after hb9
        have v0 : w11.cell? ⟨w10.heap.size, 0, none⟩ = some (.int .i64 vn) := hV11.cell 0 rfl
        have v1 : w11.cell? ⟨w10.heap.size, 1, none⟩ = some (.int .i64 vm) := hV11.cell 1 rfl
        have x2 : w11.cell? ⟨Bx, 2, none⟩ = some (.int .i64 xn) := hX11.cell 2 rfl
        have x3 : w11.cell? ⟨Bx, 3, none⟩ = some (.int .i64 xm) := hX11.cell 3 rfl
        have n0 : w11.cell? ⟨w7.heap.size, 0, none⟩ = some (.int .i64 ((pre.length : Int) + 1)) := hN11.cell 0 rfl
        have r0 : w11.cell? ⟨w.heap.size, 0, none⟩ = some (.bool false) := hR11.cell 0 rfl
        have r1 := hR11.free 0
        have HN11 := Lib.hid hN11
        have HR11 := Lib.hid hR11
        have HB11 : Hid (Below w7.heap.size w8 w11) := HB9.out.trans (hb9.mono (by have := HB.out.size; omega))
        have HK11 : Hid (KeepsFrom w8.heap.size W w11) := (HK9.out.from _).trans (keeps_below hb9 _)
        have HBW : Hid (Below w7.heap.size W w11) := HKB9.out.trans (hb9.mono (by have := HB.out.size; omega))
        have HW11 := Lib.hid hw11
        have hne := fun w => ratio_neq vn vm xn xm w
        rw [← hw11] at v0 v1 x2 x3 n0 r0 r1
        clear hb10 hb11 hb9 hV11 hX11 hN11 hR11 hV q0 x0 x1 c0 c1 hw11
        cases vb with
        | false =>
          clear v0 v1 x2 x3 n0 hne
          gi_wp2_with fail
          rw [HW11.out]
          exact ⟨HK11.out.trans ((KeepsOthers.setCell _ _ _).from _), ⟨xk, xd, xn, xm⟩, by simp, fun e => by
            have e' : knownX S.1 (xk, xd) = ((xn, xm), true) := e
            rw [HV.out] at e'
            simp at e'⟩
        | true =>
          by_cases he : vn = xn ∧ vm = xm
          · rw [decide_eq_true he] at hne
            have HE := Lib.hid he
            clear he r0 r1
            gi_wp2_with fail
            rw [HW11.out]
            refine ⟨HK11.out, HBW.out.mono (by omega), ⟨?_, HR11.out⟩, HB11.out⟩
            have := HN11.out
            rw [List.length_append]
            exact this
          · rw [decide_eq_false he] at hne
            have HE := Lib.hid he
            clear he
            gi_wp2_with fail
            rw [HW11.out]
            exact ⟨HK11.out.trans ((KeepsOthers.setCell _ _ _).from _), ⟨xk, xd, xn, xm⟩, by simp, fun e => by
              have e' : knownX S.1 (xk, xd) = ((xn, xm), true) := e
              rw [HV.out] at e'
              simp only [Prod.mk.injEq, and_true] at e'
              exact HE.out e'⟩
      case stop =>
        rintro D c pre W hD hpre hx hK
        exact absurd (fun x h => knownX_mem HSO.out.1 (hpre.subset h)) hx
      case done =>
        rintro D ys W hD rfl ⟨⟨hN, hR⟩, hB⟩ hK
        have zW := hB.size
        have hFW := HF8.out.below hB lF.1 lF.2.1 lF.2.2
        have hGW := HG8.out.below hB lG.1 lG.2.1 lG.2.2
        have hHW := HH8.out.below hB lH.1 lH.2.1 lH.2.2
        have hKW := HK8.out.below hB lK.1 lK.2.1 lK.2.2
        have hQ : Blk W w3.heap.size #[.pointer (some ⟨q, 0, none⟩)] 23 := KQ8.out.below hB (by omega)
        have hBW := HB8.out.trans (hB.mono (by omega))
        have HC1 : Hid (∀ w', Below W.heap.size W w' → Calls Try.prog 18 #[.pointer (some ⟨q, 0, none⟩), .pointer (some ⟨k, 0, none⟩)] w' fun e w'' => e = .returned (.bool true) ∧ Below W.heap.size W w'') := fun w' h =>
          (same_ok q qa qc k ka kc S.1 S.1 S.2 S.2 _ (hHW.after h) (hKW.after h) (by omega) (by omega) (by omega) (by omega)).mono fun e w'' ⟨h1, h2⟩ => ⟨by rw [h1, decide_eq_true ⟨rfl, rfl⟩], h.trans (h2.mono h.size)⟩
        have HC2 : Hid (∀ w', Below W.heap.size W w' → Calls Try.prog 18 #[.pointer (some ⟨p, 0, none⟩), .pointer (some ⟨p', 0, none⟩)] w' fun e w'' => e = .returned (.bool true) ∧ Below W.heap.size W w'') := fun w' h =>
          (same_ok p ba bc p' ba' bc' S1.1 S1.1 S1.2 S1.2 _ (hFW.after h) (hGW.after h) (by omega) (by omega) (by omega) (by omega)).mono fun e w'' ⟨h1, h2⟩ => ⟨by rw [h1, decide_eq_true ⟨rfl, rfl⟩], h.trans (h2.mono h.size)⟩
        have HC3 : Hid (∀ w', Below W.heap.size W w' → Calls Try.prog 14 #[.pointer (some ⟨q, 0, none⟩)] w' fun e w'' => (∃ a cap, e = .returned (.slice a S.1.length cap)) ∧ Below W.heap.size W w'') := fun w' h =>
          (listX_any _ S.1 _ (seqX_ok q qa qc S.1 S.2 _ (hHW.after h) (by omega)) (by omega)).mono fun e w'' ⟨a, c, h1, _, h2⟩ => ⟨⟨a, c, h1⟩, h.trans (h2.mono h.size)⟩
        have HC4 : Hid (∀ w', Below W.heap.size W w' → Calls Try.prog 10 #[] w' fun e w'' => e = .returned (.bool true) ∧ Below W.heap.size W w'') := fun w' h =>
          (awake_ok _).mono fun e w'' ⟨h1, h2⟩ => ⟨h1, h.trans (h2.mono h.size)⟩
        have HS : Hid (∀ w' : World, Below W.heap.size W w' → w'.cell? ⟨w3.heap.size, 0, none⟩ = some (.pointer (some ⟨q, 0, none⟩)) ∧ w'.cell? ⟨w7.heap.size, 0, none⟩ = some (.int .i64 (S.1.length : Int))) := fun w' h => ⟨(hQ.after h).cell 0 rfl, (hN.after h).cell 0 rfl⟩
        have HR := Lib.hid hR
        have HN := Lib.hid hN
        have HBW := Lib.hid hBW
        have hne3 : w3.heap.size ≠ w.heap.size := by omega
        have hne7 : w7.heap.size ≠ w.heap.size := by omega
        clear hFW hGW hHW hKW hQ hR hN hB hBW
        go_wp2_with fail
        go_region_held3 (fun w' => w'.cell? ⟨w3.heap.size, 0, none⟩ = some (.pointer (some ⟨q, 0, none⟩)) ∧ w'.cell? ⟨w7.heap.size, 0, none⟩ = some (.int .i64 (S.1.length : Int)))
          (first | with_reducible exact HS.out _ (Below.refl _ _).drew | with_reducible exact HS.out _ hb9 | with_reducible exact HS.out _ hb10 | with_reducible exact HS.out _ hb11 | with_reducible exact HS.out _ hb12 | exact ⟨(World.cell?_setCell_other w12 _ _ _ (fun e => hne3 (congrArg Addr.block e).symm)).trans (HS.out _ hb12).1, (World.cell?_setCell_other w12 _ _ _ (fun e => hne7 (congrArg Addr.block e).symm)).trans (HS.out _ hb12).2⟩ | go_keep)
          (first
            | (go_at_call 18; (with_reducible refine (HC1.out W.drew (Below.refl _ _).drew).mono ?_); rintro e w9 ⟨rfl, hb9⟩)
            | (go_at_call 18; (with_reducible refine (HC2.out _ hb9).mono ?_); rintro e w10 ⟨rfl, hb10⟩)
            | (go_at_call 14; (with_reducible refine (HC3.out _ hb10).mono ?_); rintro e w11 ⟨⟨a11, c11, rfl⟩, hb11⟩)
            | (go_at_call 10; (with_reducible refine (HC4.out _ hb11).mono ?_); rintro e w12 ⟨rfl, hb12⟩; have o12 := (HR.out.after hb12).cell 0 rfl; have p12 := (HR.out.after hb12).free 0))
        have zw12 := hb12.size
        have hK12 : w12.heap[D]? = some (.deferred (some [])) := (hb12.block D (Array.getElem?_eq_some_iff.1 hK).1).trans hK
        have hK13 : (w12.setCell ⟨w.heap.size, 0, none⟩ (.bool true)).heap[D]? = some (.deferred (some [])) :=
          (Below.heap_setCell w12 _ _ D (by show D ≠ w.heap.size; omega)).trans hK12
        have hBF : Below w.heap.size w (w12.setCell ⟨w.heap.size, 0, none⟩ (.bool true)) :=
          (HBW.out.trans (hb12.mono HBW.out.size)).setCell (p := ⟨w.heap.size, 0, none⟩) (Nat.le_refl _) _
        have hr13 := ((HR.out.after hb12).set 0 (.bool true)).cell 0 rfl
        clear hK
        go_wp2_with fail
        refine ⟨by simp, .inl ⟨_, _, rfl, run_takeDeferred hK13, ?_⟩⟩
        have hc14 := cell_kept hr13 (grownBy_putObj' _ D (.deferred none)) (fun r e => by cases e; exact ⟨_, hK13, rfl⟩)
        refine ⟨.bool true, ?_, rfl, hBF.trans (belowK_b (w := w) (Nat.le_refl _) _ D _ _ (by omega) hK13 rfl rfl)⟩
        simp [results, Try.f7, go_sem, hc14]

set_option maxRecDepth 100000 in
open Go.ChangeShapes Go.WideShapes Go.ChangeAt in
theorem walk_FactsCopies {H : Type} (enc : TypeId × Value → H) (base : Nat) (W : World) (v : Value) (d : DataW H) (p : List MemPlace) (h : DataW.Trod enc Try.prog W 0 (fun _ => true) true 22 v d p) (ok : Value.okWide Try.prog W .any base 22 v)
    (v' : Value) (d' : DataW H) (p' : List MemPlace) (h' : DataW.Trod enc Try.prog W 0 (fun _ => true) true 22 v' d' p') (ok' : Value.okWide Try.prog W .any base 22 v') :
    Calls Try.prog 7 #[v, v'] W fun e w' => e = .returned (.bool true) ∧ Below W.heap.size W w' := by
  obtain ⟨a, cap, l, rfl, hl, hc, _, hT⟩ := told_arg h ok
  obtain ⟨a', cap', m, rfl, hl', hc', _, hT'⟩ := told_arg h' ok'
  exact copies_law a a' cap cap' l m (by omega) (by omega) W hT hT'

end Go.Proofs.Ytfimgdjpnlcckaa
