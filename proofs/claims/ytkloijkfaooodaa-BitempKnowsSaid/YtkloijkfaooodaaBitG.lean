/- Package bitemp: put. -/
import Derived.Test.YtkloijkfaooodaaBitH
import Derived.Deep.AppendLies
namespace Go.Proofs.Ytkloijkfaooodaa
open Go.RowKit Go.Shelf
set_option linter.unusedVariables false
set_option linter.unusedSimpArgs false

/-- A zero version stored over a zero one. -/
theorem zero7 {w : World} {B : Nat} {T : TypeId} (h : Blk w B #[.int .i64 0, .bool false, .int .i64 0, .int .i64 0, .int .i64 0, .int .i64 0, .int .i64 0] T) : Blk (put7 w B ⟨0, false, 0, 0, 0, 0, 0⟩) B #[.int .i64 0, .bool false, .int .i64 0, .int .i64 0, .int .i64 0, .int .i64 0, .int .i64 0] T := set7 h _ _ _ _ _ _ _
theorem own_down {w : World} {base base' e size n : Nat} {v : Value} {xs : List Value} (h : w.ownsRow base e size v n xs) (hb : base' ≤ base) : w.ownsRow base' e size v n xs := by
  obtain ⟨h1, h2⟩ := h
  refine ⟨h1, ?_⟩
  rcases h2 with h2 | ⟨g, cap, cur, hv, hg, r⟩
  · exact Or.inl h2
  · exact Or.inr ⟨g, cap, cur, hv, Nat.le_trans hb hg, r⟩
theorem put_err {base p bm : Nat} {sv : Value} {V : List Vs} {v : Vs} {w w' : World} {E : Int} (hE : putE V v = E ∧ E ≠ 0) (h : StAt w base p bm sv V) (hb : Below w.heap.size w w') :
    PutEnd w base p bm sv V v (.returned (.tuple #[.agg #[.int .i64 0, .bool false, .int .i64 0, .int .i64 0, .int .i64 0, .int .i64 0, .int .i64 0], .bool false, .int .i64 E])) w' := by
  obtain ⟨h1, h2⟩ := hE
  have h3 : putE V v ≠ 0 := by rw [h1]; exact h2
  refine ⟨sv, ?_, ?_, Turn.of_below hb, fun g hg => Or.inl hg⟩
  · unfold putV3 oldV
    rw [if_neg h3, h1]
    rfl
  · unfold putV
    rw [if_neg h3]
    exact h.after hb
set_option maxHeartbeats 8000000 in
set_option maxRecDepth 100000 in
theorem put_ok (base p bm : Nat) (sv : Value) (V : List Vs) (v : Vs) (w : World) (hbase : base ≤ w.heap.size) (h : StAt w base p bm sv V) (hl : V.length ≤ 2513169434900) :
    Calls Try.prog 55 #[.pointer (some ⟨p, 0, none⟩), .agg (encS v).toArray] w (PutEnd w base p bm sv V v) := by
  obtain ⟨i0, hi, hi0, hi1, hi2⟩ := info_parts infoInt
  obtain ⟨v0, hv, hv0, hv1, hv2⟩ := info_parts infoVer
  have H := Lib.hid h
  have HOB : Hid (∀ B, w.heap.size ≤ B → sv.ownBlock ≠ some B) := fun B hB e => by have := (own_cells h.own e).2.1; omega
  have hil : (idxP V v.pl).length ≤ 2513169434900 := by rw [idxP_len]; have := ofP_len V v.pl; omega
  obtain ⟨w0, hw0⟩ : ∃ w0, (w.alloc (.cells (encS v).toArray 26)).alloc (.cells (encS default).toArray 26) = w0 := ⟨_, rfl⟩
  have hb0 : Below w.heap.size w w0 := by rw [← hw0]; exact ((Below.refl _ _).alloc (Nat.le_refl _) _).alloc (by simp) _
  have z0 : w0.heap.size = w.heap.size + 2 := by rw [← hw0]; simp
  have KV : Hid (Blk w0 w.heap.size (encS v).toArray 26) := by rw [← hw0]; exact (Blk.new _ _ _).alloc _
  have KR : Hid (Blk w0 (w.heap.size + 1) #[.int .i64 0, .bool false, .int .i64 0, .int .i64 0, .int .i64 0, .int .i64 0, .int .i64 0] 26) := by
    rw [← hw0]
    have := Blk.new (w.alloc (.cells (encS v).toArray 26)) (encS default).toArray 26
    rw [World.size_alloc] at this
    exact this
  have HB0 := Lib.hid hb0
  have Z0 := Lib.hid z0
  have H0 := Lib.hid (h.after hb0)
  have HSQ : Hid (∀ W, Below w0.heap.size w0 W → Calls Try.prog 31 #[.pointer (some ⟨p, 0, none⟩)] W fun e w' => e = .returned (.int .i64 (seqV V)) ∧ w' = W) := fun W hW => bseq_ok base p bm sv V W (H0.out.after hW) (by omega)
  obtain ⟨xs, xc, xk, xd, xn, xm, xp⟩ := v
  have HW0 : Hid ((w.alloc (.cells #[.int .i64 xs, .bool xc, .int .i64 xk, .int .i64 xd, .int .i64 xn, .int .i64 xm, .int .i64 xp] 26)).alloc (.cells #[.int .i64 0, .bool false, .int .i64 0, .int .i64 0, .int .i64 0, .int .i64 0, .int .i64 0] 26) = w0) := hw0
  dsimp only [encS] at KV ⊢
  dsimp only [Vs.pl] at hil
  clear hw0 hb0 z0 h
  have x : w0.cell? ⟨w.heap.size, 0, none⟩ = some (.int .i64 xs) := (KV.out).cell 0 rfl
  have x1 : w0.cell? ⟨w.heap.size, 1, none⟩ = some (.bool xc) := (KV.out).cell 1 rfl
  have x2 : w0.cell? ⟨w.heap.size, 2, none⟩ = some (.int .i64 xk) := (KV.out).cell 2 rfl
  have x3 : w0.cell? ⟨w.heap.size, 3, none⟩ = some (.int .i64 xd) := (KV.out).cell 3 rfl
  have x4 : w0.cell? ⟨w.heap.size, 4, none⟩ = some (.int .i64 xn) := (KV.out).cell 4 rfl
  have x5 : w0.cell? ⟨w.heap.size, 5, none⟩ = some (.int .i64 xm) := (KV.out).cell 5 rfl
  have x6 : w0.cell? ⟨w.heap.size, 6, none⟩ = some (.int .i64 xp) := (KV.out).cell 6 rfl
  have b0 : w0.cell? ⟨(w.heap.size + 1), 0, none⟩ = some (.int .i64 0) := (KR.out).cell 0 rfl
  have b1 : w0.cell? ⟨(w.heap.size + 1), 1, none⟩ = some (.bool false) := (KR.out).cell 1 rfl
  have b2 : w0.cell? ⟨(w.heap.size + 1), 2, none⟩ = some (.int .i64 0) := (KR.out).cell 2 rfl
  have b3 : w0.cell? ⟨(w.heap.size + 1), 3, none⟩ = some (.int .i64 0) := (KR.out).cell 3 rfl
  have b4 : w0.cell? ⟨(w.heap.size + 1), 4, none⟩ = some (.int .i64 0) := (KR.out).cell 4 rfl
  have b5 : w0.cell? ⟨(w.heap.size + 1), 5, none⟩ = some (.int .i64 0) := (KR.out).cell 5 rfl
  have b6 : w0.cell? ⟨(w.heap.size + 1), 6, none⟩ = some (.int .i64 0) := (KR.out).cell 6 rfl
  have f0 := (KR.out).free 0
  have f1 := (KR.out).free 1
  have f2 := (KR.out).free 2
  have f3 := (KR.out).free 3
  have f4 := (KR.out).free 4
  have f5 := (KR.out).free 5
  have f6 := (KR.out).free 6
  have zlt : p < w.heap.size := H.out.lt.1
  have zlm : bm < w.heap.size := H.out.lt.2
  go_enter Try.func55, Try.ntmps55
  go_wp2_with fail
  rw [HW0.out]
  have bd : Below w0.heap.size w0 w0.drew := (Below.refl _ _).drew
  have xd0 : w0.drew.cell? ⟨w.heap.size, 0, none⟩ = some (.int .i64 xs) := x
  by_cases h1 : xs < 1
  · have h1' : decide (xs < 1) = true := decide_eq_true h1
    have HE : Hid (putE V ⟨xs, xc, xk, xd, xn, xm, xp⟩ = 24 ∧ (24 : Int) ≠ 0) := ⟨by unfold putE; rw [if_pos (Or.inl h1)], by decide⟩
    clear h1
    go_quiet (fail)
    have bdn : Below w0.heap.size w0 (w0.drewN nq) := ⟨rfl, rfl, rfl, Nat.le_refl _, fun _ _ => rfl⟩
    obtain ⟨w4, hw4⟩ : ∃ W, w0.drewN nq = W := ⟨_, rfl⟩
    rw [hw4] at bdn ⊢
    clear hw4 b0 b1 b2 b3 b4 b5 b6 f0 f1 f2 f3 f4 f5 f6
    have K4 := KR.out.after bdn
    have b0 : w4.cell? ⟨(w.heap.size + 1), 0, none⟩ = some (.int .i64 0) := (K4).cell 0 rfl
    have b1 : w4.cell? ⟨(w.heap.size + 1), 1, none⟩ = some (.bool false) := (K4).cell 1 rfl
    have b2 : w4.cell? ⟨(w.heap.size + 1), 2, none⟩ = some (.int .i64 0) := (K4).cell 2 rfl
    have b3 : w4.cell? ⟨(w.heap.size + 1), 3, none⟩ = some (.int .i64 0) := (K4).cell 3 rfl
    have b4 : w4.cell? ⟨(w.heap.size + 1), 4, none⟩ = some (.int .i64 0) := (K4).cell 4 rfl
    have b5 : w4.cell? ⟨(w.heap.size + 1), 5, none⟩ = some (.int .i64 0) := (K4).cell 5 rfl
    have b6 : w4.cell? ⟨(w.heap.size + 1), 6, none⟩ = some (.int .i64 0) := (K4).cell 6 rfl
    have f0 := (K4).free 0
    have f1 := (K4).free 1
    have f2 := (K4).free 2
    have f3 := (K4).free 3
    have f4 := (K4).free 4
    have f5 := (K4).free 5
    have f6 := (K4).free 6
    go_wp2_with fail
    have K5 := zero7 (K4)
    have hb5 := put7_below (HB0.out.trans (bdn.mono HB0.out.size)) (show w.heap.size ≤ w.heap.size + 1 by omega) ⟨0, false, 0, 0, 0, 0, 0⟩
    obtain ⟨w5, hw5⟩ : ∃ W, put7 w4 (w.heap.size + 1) ⟨0, false, 0, 0, 0, 0, 0⟩ = W := ⟨_, rfl⟩
    rw [hw5] at K5 hb5
    simp only [put7] at hw5
    rw [hw5]
    have e0 : w5.cell? ⟨w.heap.size + 1, 0, none⟩ = some (.int .i64 0) := K5.cell 0 rfl
    have e1 : w5.cell? ⟨w.heap.size + 1, 1, none⟩ = some (.bool false) := K5.cell 1 rfl
    have e2 : w5.cell? ⟨w.heap.size + 1, 2, none⟩ = some (.int .i64 0) := K5.cell 2 rfl
    have e3 : w5.cell? ⟨w.heap.size + 1, 3, none⟩ = some (.int .i64 0) := K5.cell 3 rfl
    have e4 : w5.cell? ⟨w.heap.size + 1, 4, none⟩ = some (.int .i64 0) := K5.cell 4 rfl
    have e5 : w5.cell? ⟨w.heap.size + 1, 5, none⟩ = some (.int .i64 0) := K5.cell 5 rfl
    have e6 : w5.cell? ⟨w.heap.size + 1, 6, none⟩ = some (.int .i64 0) := K5.cell 6 rfl
    refine bodyPost_ret (v := .tuple #[.agg #[.int .i64 0, .bool false, .int .i64 0, .int .i64 0, .int .i64 0, .int .i64 0, .int .i64 0], .bool false, .int .i64 24]) (by simp [results, Try.results55, go_sem, e0, e1, e2, e3, e4, e5, e6]) rfl ?_
    exact put_err HE.out H.out hb5
  have h1' : decide (xs < 1) = false := decide_eq_false h1
  by_cases h2 : xs < seqV V
  · have h2' : decide (xs < seqV V) = true := decide_eq_true h2
    have HE : Hid (putE V ⟨xs, xc, xk, xd, xn, xm, xp⟩ = 24 ∧ (24 : Int) ≠ 0) := ⟨by unfold putE; rw [if_pos (Or.inr h2)], by decide⟩
    clear h1 h2
    go_region_held3 (fun w' => w'.cell? ⟨w.heap.size, 0, none⟩ = some (.int .i64 xs))
      (exact xd0)
      ((go_at_call 31; (with_reducible refine (HSQ.out _ bd).mono ?_); rintro e w5 ⟨rfl, rfl⟩))
    obtain ⟨w4, hw4⟩ : ∃ W, w0.drew = W := ⟨_, rfl⟩
    rw [hw4] at bd ⊢
    clear hw4 xd0 b0 b1 b2 b3 b4 b5 b6 f0 f1 f2 f3 f4 f5 f6
    have K4 := KR.out.after bd
    have b0 : w4.cell? ⟨(w.heap.size + 1), 0, none⟩ = some (.int .i64 0) := (K4).cell 0 rfl
    have b1 : w4.cell? ⟨(w.heap.size + 1), 1, none⟩ = some (.bool false) := (K4).cell 1 rfl
    have b2 : w4.cell? ⟨(w.heap.size + 1), 2, none⟩ = some (.int .i64 0) := (K4).cell 2 rfl
    have b3 : w4.cell? ⟨(w.heap.size + 1), 3, none⟩ = some (.int .i64 0) := (K4).cell 3 rfl
    have b4 : w4.cell? ⟨(w.heap.size + 1), 4, none⟩ = some (.int .i64 0) := (K4).cell 4 rfl
    have b5 : w4.cell? ⟨(w.heap.size + 1), 5, none⟩ = some (.int .i64 0) := (K4).cell 5 rfl
    have b6 : w4.cell? ⟨(w.heap.size + 1), 6, none⟩ = some (.int .i64 0) := (K4).cell 6 rfl
    have f0 := (K4).free 0
    have f1 := (K4).free 1
    have f2 := (K4).free 2
    have f3 := (K4).free 3
    have f4 := (K4).free 4
    have f5 := (K4).free 5
    have f6 := (K4).free 6
    go_wp2_with fail
    have K5 := zero7 (K4)
    have hb5 := put7_below (HB0.out.trans (bd.mono HB0.out.size)) (show w.heap.size ≤ w.heap.size + 1 by omega) ⟨0, false, 0, 0, 0, 0, 0⟩
    obtain ⟨w5, hw5⟩ : ∃ W, put7 w4 (w.heap.size + 1) ⟨0, false, 0, 0, 0, 0, 0⟩ = W := ⟨_, rfl⟩
    rw [hw5] at K5 hb5
    simp only [put7] at hw5
    rw [hw5]
    have e0 : w5.cell? ⟨w.heap.size + 1, 0, none⟩ = some (.int .i64 0) := K5.cell 0 rfl
    have e1 : w5.cell? ⟨w.heap.size + 1, 1, none⟩ = some (.bool false) := K5.cell 1 rfl
    have e2 : w5.cell? ⟨w.heap.size + 1, 2, none⟩ = some (.int .i64 0) := K5.cell 2 rfl
    have e3 : w5.cell? ⟨w.heap.size + 1, 3, none⟩ = some (.int .i64 0) := K5.cell 3 rfl
    have e4 : w5.cell? ⟨w.heap.size + 1, 4, none⟩ = some (.int .i64 0) := K5.cell 4 rfl
    have e5 : w5.cell? ⟨w.heap.size + 1, 5, none⟩ = some (.int .i64 0) := K5.cell 5 rfl
    have e6 : w5.cell? ⟨w.heap.size + 1, 6, none⟩ = some (.int .i64 0) := K5.cell 6 rfl
    refine bodyPost_ret (v := .tuple #[.agg #[.int .i64 0, .bool false, .int .i64 0, .int .i64 0, .int .i64 0, .int .i64 0, .int .i64 0], .bool false, .int .i64 24]) (by simp [results, Try.results55, go_sem, e0, e1, e2, e3, e4, e5, e6]) rfl ?_
    exact put_err HE.out H.out hb5
  have h2' : decide (xs < seqV V) = false := decide_eq_false h2
  have HLT : Hid (xs < 1 → False) ∧ Hid (xs < seqV V → False) := ⟨h1, h2⟩
  clear h1 h2
  go_region_held3 (fun w' => w'.cell? ⟨w.heap.size, 0, none⟩ = some (.int .i64 xs))
    (exact xd0)
    ((go_at_call 31; (with_reducible refine (HSQ.out _ bd).mono ?_); rintro e w5 ⟨rfl, rfl⟩))
  obtain ⟨w1, hw1⟩ : ∃ W, w0.drew = W := ⟨_, rfl⟩
  rw [hw1] at bd ⊢
  have HB1 := Lib.hid (HB0.out.trans (bd.mono HB0.out.size))
  have H1 := Lib.hid (H0.out.after bd)
  have KV1 := Lib.hid (KV.out.after bd)
  have KR1 := Lib.hid (KR.out.after bd)
  have z1 : w.heap.size + 2 ≤ w1.heap.size := by have := Z0.out; have := bd.size; omega
  clear hw1 xd0 bd KV KR H0 HB0 x x1 x2 x3 x4 x5 x6 b0 b1 b2 b3 b4 b5 b6 f0 f1 f2 f3 f4 f5 f6 HSQ Z0 HW0
  have x : w1.cell? ⟨w.heap.size, 0, none⟩ = some (.int .i64 xs) := (KV1.out).cell 0 rfl
  have x1 : w1.cell? ⟨w.heap.size, 1, none⟩ = some (.bool xc) := (KV1.out).cell 1 rfl
  have x2 : w1.cell? ⟨w.heap.size, 2, none⟩ = some (.int .i64 xk) := (KV1.out).cell 2 rfl
  have x3 : w1.cell? ⟨w.heap.size, 3, none⟩ = some (.int .i64 xd) := (KV1.out).cell 3 rfl
  have x4 : w1.cell? ⟨w.heap.size, 4, none⟩ = some (.int .i64 xn) := (KV1.out).cell 4 rfl
  have x5 : w1.cell? ⟨w.heap.size, 5, none⟩ = some (.int .i64 xm) := (KV1.out).cell 5 rfl
  have x6 : w1.cell? ⟨w.heap.size, 6, none⟩ = some (.int .i64 xp) := (KV1.out).cell 6 rfl
  go_wp2_with fail
  with_reducible refine (lat_ok base p bm sv V xc xk xd xs _ H1.out (by omega)).mono ?_
  rintro e w2 ⟨rfl, hb2⟩
  obtain ⟨O, hO⟩ : ∃ O, latP V (xc, xk, xd) xs = O := ⟨_, rfl⟩
  rw [hO]
  have HO := Lib.hid hO
  unfold latV
  obtain ⟨⟨os, oc, ok, od, on, om, op⟩, ho⟩ : ∃ o, O.getD default = o := ⟨_, rfl⟩
  obtain ⟨is, his⟩ : ∃ is, O.isSome = is := ⟨_, rfl⟩
  rw [ho, his]
  have HOD := Lib.hid ho
  have HIS := Lib.hid his
  have HB2 := Lib.hid (HB1.out.trans (hb2.mono HB1.out.size))
  have H2 := Lib.hid (H1.out.after hb2)
  have KV2 := Lib.hid (KV1.out.after hb2)
  have KR2 := Lib.hid (KR1.out.after hb2)
  have z2 : w.heap.size + 2 ≤ w2.heap.size := by have := hb2.size; omega
  obtain ⟨w3, hw3⟩ : ∃ W, w2.alloc (.cells #[.int .i64 os, .bool oc, .int .i64 ok, .int .i64 od, .int .i64 on, .int .i64 om, .int .i64 op] 26) = W := ⟨_, rfl⟩
  have hb3 : Below w2.heap.size w2 w3 := by rw [← hw3]; exact (Below.refl _ _).alloc (Nat.le_refl _) _
  have KO3 : Hid (Blk w3 w2.heap.size #[.int .i64 os, .bool oc, .int .i64 ok, .int .i64 od, .int .i64 on, .int .i64 om, .int .i64 op] 26) := by rw [← hw3]; exact Blk.new _ _ _
  have HB3 := Lib.hid (HB2.out.trans (hb3.mono HB2.out.size))
  have H3 := Lib.hid (H2.out.after hb3)
  have KV3 := Lib.hid (KV2.out.after hb3)
  have KR3 := Lib.hid (KR2.out.after hb3)
  have z3 : w2.heap.size < w3.heap.size := KO3.out.lt
  have HW3 := Lib.hid hw3
  clear hO ho his hb2 x x1 x2 x3 x4 x5 x6 H1 KV1 KR1 HB1 H2 KV2 KR2 HB2 hb3
  have o0 : w3.cell? ⟨w2.heap.size, 0, none⟩ = some (.int .i64 os) := KO3.out.cell 0 rfl
  have y : w3.cell? ⟨w.heap.size, 0, none⟩ = some (.int .i64 xs) := (KV3.out).cell 0 rfl
  have y1 : w3.cell? ⟨w.heap.size, 1, none⟩ = some (.bool xc) := (KV3.out).cell 1 rfl
  have y2 : w3.cell? ⟨w.heap.size, 2, none⟩ = some (.int .i64 xk) := (KV3.out).cell 2 rfl
  have y3 : w3.cell? ⟨w.heap.size, 3, none⟩ = some (.int .i64 xd) := (KV3.out).cell 3 rfl
  have y4 : w3.cell? ⟨w.heap.size, 4, none⟩ = some (.int .i64 xn) := (KV3.out).cell 4 rfl
  have y5 : w3.cell? ⟨w.heap.size, 5, none⟩ = some (.int .i64 xm) := (KV3.out).cell 5 rfl
  have y6 : w3.cell? ⟨w.heap.size, 6, none⟩ = some (.int .i64 xp) := (KV3.out).cell 6 rfl
  have b0 : w3.cell? ⟨(w.heap.size + 1), 0, none⟩ = some (.int .i64 0) := (KR3.out).cell 0 rfl
  have b1 : w3.cell? ⟨(w.heap.size + 1), 1, none⟩ = some (.bool false) := (KR3.out).cell 1 rfl
  have b2 : w3.cell? ⟨(w.heap.size + 1), 2, none⟩ = some (.int .i64 0) := (KR3.out).cell 2 rfl
  have b3 : w3.cell? ⟨(w.heap.size + 1), 3, none⟩ = some (.int .i64 0) := (KR3.out).cell 3 rfl
  have b4 : w3.cell? ⟨(w.heap.size + 1), 4, none⟩ = some (.int .i64 0) := (KR3.out).cell 4 rfl
  have b5 : w3.cell? ⟨(w.heap.size + 1), 5, none⟩ = some (.int .i64 0) := (KR3.out).cell 5 rfl
  have b6 : w3.cell? ⟨(w.heap.size + 1), 6, none⟩ = some (.int .i64 0) := (KR3.out).cell 6 rfl
  have f0 := (KR3.out).free 0
  have f1 := (KR3.out).free 1
  have f2 := (KR3.out).free 2
  have f3 := (KR3.out).free 3
  have f4 := (KR3.out).free 4
  have f5 := (KR3.out).free 5
  have f6 := (KR3.out).free 6
  rw [← hw3] at o0 y y1 y2 y3 y4 y5 y6 b0 b1 b2 b3 b4 b5 b6 f0 f1 f2 f3 f4 f5 f6
  clear hw3
  dsimp only [encS]
  cases is with
  | true =>
    by_cases h3 : os = xs
    · have h3' : (os == xs) = true := by simpa using h3
      have HE : Hid (putE V ⟨xs, xc, xk, xd, xn, xm, xp⟩ = 17 ∧ (17 : Int) ≠ 0) := ⟨putE_there (fun h => HLT.1.out h) (fun h => HLT.2.out h) (HO.out.trans (opt_is HOD.out HIS.out)) h3, by decide⟩
      clear h3
      go_wp2_with fail
      rw [HW3.out]
      have K5 := zero7 (KR3.out)
      have hb5 := put7_below (HB3.out) (show w.heap.size ≤ w.heap.size + 1 by omega) ⟨0, false, 0, 0, 0, 0, 0⟩
      obtain ⟨w5, hw5⟩ : ∃ W, put7 w3 (w.heap.size + 1) ⟨0, false, 0, 0, 0, 0, 0⟩ = W := ⟨_, rfl⟩
      rw [hw5] at K5 hb5
      simp only [put7] at hw5
      rw [hw5]
      have e0 : w5.cell? ⟨w.heap.size + 1, 0, none⟩ = some (.int .i64 0) := K5.cell 0 rfl
      have e1 : w5.cell? ⟨w.heap.size + 1, 1, none⟩ = some (.bool false) := K5.cell 1 rfl
      have e2 : w5.cell? ⟨w.heap.size + 1, 2, none⟩ = some (.int .i64 0) := K5.cell 2 rfl
      have e3 : w5.cell? ⟨w.heap.size + 1, 3, none⟩ = some (.int .i64 0) := K5.cell 3 rfl
      have e4 : w5.cell? ⟨w.heap.size + 1, 4, none⟩ = some (.int .i64 0) := K5.cell 4 rfl
      have e5 : w5.cell? ⟨w.heap.size + 1, 5, none⟩ = some (.int .i64 0) := K5.cell 5 rfl
      have e6 : w5.cell? ⟨w.heap.size + 1, 6, none⟩ = some (.int .i64 0) := K5.cell 6 rfl
      refine bodyPost_ret (v := .tuple #[.agg #[.int .i64 0, .bool false, .int .i64 0, .int .i64 0, .int .i64 0, .int .i64 0, .int .i64 0], .bool false, .int .i64 17]) (by simp [results, Try.results55, go_sem, e0, e1, e2, e3, e4, e5, e6]) rfl ?_
      exact put_err HE.out H.out hb5
    · have h3' : (os == xs) = false := by simpa using h3
      have HE : Hid (putE V ⟨xs, xc, xk, xd, xn, xm, xp⟩ = 0) := putE_zero (fun h => HLT.1.out h) (fun h => HLT.2.out h) fun o h e => h3 (by
        have h1 := HO.out.symm.trans h
        have h2 := HOD.out
        rw [h1] at h2
        have h4 : o = _ := h2
        rw [h4] at e
        exact e)
      clear h3
      go_wp2_with fail
      rw [HW3.out]
      have hpl : ∀ W, Calls Try.prog 70 #[.agg #[.int .i64 xs, .bool xc, .int .i64 xk, .int .i64 xd, .int .i64 xn, .int .i64 xm, .int .i64 xp]] W fun e w' => e = .returned (pkV (xc, xk, xd)) ∧ Below W.heap.size W w' := fun W => bplace_ok ⟨xs, xc, xk, xd, xn, xm, xp⟩ W
      with_reducible refine (hpl _).mono ?_
      clear hpl
      rintro e w4 ⟨rfl, hb4⟩
      have H4 := H3.out.after hb4
      have KV4 := KV3.out.after hb4
      have KR4 := KR3.out.after hb4
      have KO4 := KO3.out.after hb4
      have HB4 := HB3.out.trans (hb4.mono HB3.out.size)
      have z4 := hb4.size
      dsimp only [pkV]
      obtain ⟨w5, hw5⟩ : ∃ W, w4.alloc (.cells #[.bool xc, .int .i64 xk, .int .i64 xd] 93) = W := ⟨_, rfl⟩
      have hb5 : Below w4.heap.size w4 w5 := by rw [← hw5]; exact (Below.refl _ _).alloc (Nat.le_refl _) _
      have KP5 : Blk w5 w4.heap.size #[.bool xc, .int .i64 xk, .int .i64 xd] 93 := by rw [← hw5]; exact Blk.new _ _ _
      have HW5 := Lib.hid hw5
      have H5 := H4.after hb5
      have KV5 := Lib.hid (KV4.after hb5)
      have KR5 := Lib.hid (KR4.after hb5)
      have KO5 := Lib.hid (KO4.after hb5)
      have HB5 := Lib.hid (HB4.trans (hb5.mono HB4.size))
      have z5 := hb5.size
      clear hw5 H4 KV4 KR4 KO4 HB4 hb5 hb4 o0 y y1 y2 y3 y4 y5 y6 b0 b1 b2 b3 b4 b5 b6 f0 f1 f2 f3 f4 f5 f6 H3 KV3 KR3 KO3 HB3 HW3
      go_wp2_with fail
      rw [HW5.out]
      clear HW5
      obtain ⟨a, cap, hsv, _⟩ := owned_recs (enc := encS) (size := 7) (fun _ => rfl) H5.own rfl
      obtain ⟨E, hE⟩ := H5.map
      obtain ⟨lv, hlv1, hlv2⟩ := hE.look (xc, xk, xd)
      have HE5 := Lib.hid hE
      have HLV := Lib.hid hlv2
      have HSV := Lib.hid hsv
      have HLK : Hid (∀ W, Below w5.heap.size w5 W → (Instr.lookup 81 (.map (some bm)) (.agg #[.bool xc, .int .i64 xk, .int .i64 xd]) false).run Try.prog W = .ok lv W) := fun W hW => hlv1 W (hE.map.after hW)
      have bd : Below w5.heap.size w5 w5.drew := (Below.refl _ _).drew
      have HC : Hid (∀ W, Below w5.heap.size w5 W → W.cell? ⟨p, 0, none⟩ = some (.slice a V.length cap) ∧ W.cell? ⟨p, 1, none⟩ = some (.map (some bm)) ∧ W.cell? ⟨w4.heap.size, 0, none⟩ = some (.bool xc) ∧ W.cell? ⟨w4.heap.size, 1, none⟩ = some (.int .i64 xk) ∧ W.cell? ⟨w4.heap.size, 2, none⟩ = some (.int .i64 xd) ∧ (Instr.lookup 81 (.map (some bm)) (.agg #[.bool xc, .int .i64 xk, .int .i64 xd]) false).run Try.prog W = .ok lv W) := fun W hW => ⟨by rw [← HSV.out]; exact below_cell hW (H5.blk.cell 0 rfl), below_cell hW (H5.blk.cell 1 rfl), below_cell hW (KP5.cell 0 rfl), below_cell hW (KP5.cell 1 rfl), below_cell hW (KP5.cell 2 rfl), HLK.out W hW⟩
      have H5 := Lib.hid H5
      have KP5 := Lib.hid KP5
      clear hlv1 hlv2 hE hsv
      refine wp_region_final (fun w' => w'.cell? ⟨p, 0, none⟩ = some (.slice a V.length cap) ∧ w'.cell? ⟨p, 1, none⟩ = some (.map (some bm)) ∧ w'.cell? ⟨w4.heap.size, 0, none⟩ = some (.bool xc) ∧ w'.cell? ⟨w4.heap.size, 1, none⟩ = some (.int .i64 xk) ∧ w'.cell? ⟨w4.heap.size, 2, none⟩ = some (.int .i64 xd) ∧ (Instr.lookup 81 (.map (some bm)) (.agg #[.bool xc, .int .i64 xk, .int .i64 xd]) false).run Try.prog w' = .ok lv w') 19 (by kernel_rfl) ?_
      have hSd := HC.out _ bd
      obtain ⟨wd, hwd⟩ : ∃ W, w5.drew = W := ⟨_, rfl⟩
      rw [hwd] at bd hSd ⊢
      clear hwd
      refine wpAnyF_takes (i := 0) (v := ?_) rfl (by kernel_rfl) (fun _ _ _ h => h) (by rfl) hSd ?_ ?_
      rotate_left 1
      · intro w hSw
        obtain ⟨s1, s2, s3, s4, s5, s6⟩ := hSw
        go_simp
        try with_reducible rfl
      try simp only [Act.put, List.setIfInBounds_toArray, List.set_cons_zero, List.set_cons_succ]
      refine wpAnyF_takes (i := 1) (v := ?_) rfl (by kernel_rfl) (fun _ _ _ h => h) (by rfl) hSd ?_ ?_
      rotate_left 1
      · intro w hSw
        obtain ⟨s1, s2, s3, s4, s5, s6⟩ := hSw
        go_simp
        try with_reducible rfl
      try simp only [Act.put, List.setIfInBounds_toArray, List.set_cons_zero, List.set_cons_succ]
      refine wpAnyF_takes (i := 2) (v := ?_) rfl (by kernel_rfl) (fun _ _ _ h => h) (by rfl) hSd ?_ ?_
      rotate_left 1
      · intro w hSw
        obtain ⟨s1, s2, s3, s4, s5, s6⟩ := hSw
        go_simp
        try with_reducible rfl
      try simp only [Act.put, List.setIfInBounds_toArray, List.set_cons_zero, List.set_cons_succ]
      refine wpAnyF_takes (i := 3) (v := ?_) rfl (by kernel_rfl) (fun _ _ _ h => h) (by rfl) hSd ?_ ?_
      rotate_left 1
      · intro w hSw
        obtain ⟨s1, s2, s3, s4, s5, s6⟩ := hSw
        go_simp
        try with_reducible rfl
      try simp only [Act.put, List.setIfInBounds_toArray, List.set_cons_zero, List.set_cons_succ]
      refine wpAnyF_takes (i := 4) (v := ?_) rfl (by kernel_rfl) (fun _ _ _ h => h) (by rfl) hSd ?_ ?_
      rotate_left 1
      · intro w hSw
        obtain ⟨s1, s2, s3, s4, s5, s6⟩ := hSw
        go_simp
        try with_reducible rfl
      try simp only [Act.put, List.setIfInBounds_toArray, List.set_cons_zero, List.set_cons_succ]
      refine wpAnyF_takes (i := 5) (v := ?_) rfl (by kernel_rfl) (fun _ _ _ h => h) (by rfl) hSd ?_ ?_
      rotate_left 1
      · intro w hSw
        obtain ⟨s1, s2, s3, s4, s5, s6⟩ := hSw
        go_simp
        try with_reducible rfl
      try simp only [Act.put, List.setIfInBounds_toArray, List.set_cons_zero, List.set_cons_succ]
      refine wpAnyF_takes (i := 6) (v := ?_) rfl (by kernel_rfl) (fun _ _ _ h => h) (by rfl) hSd ?_ ?_
      rotate_left 1
      · intro w hSw
        obtain ⟨s1, s2, s3, s4, s5, s6⟩ := hSw
        go_simp
        try with_reducible rfl
      try simp only [Act.put, List.setIfInBounds_toArray, List.set_cons_zero, List.set_cons_succ]
      refine wpAnyF_takes (i := 7) (v := ?_) rfl (by kernel_rfl) (fun _ _ _ h => h) (by rfl) hSd ?_ ?_
      rotate_left 1
      · intro w hSw
        obtain ⟨s1, s2, s3, s4, s5, s6⟩ := hSw
        go_simp
        try with_reducible rfl
      try simp only [Act.put, List.setIfInBounds_toArray, List.set_cons_zero, List.set_cons_succ]
      refine wpAnyF_takes (i := 8) (v := ?_) rfl (by kernel_rfl) (fun _ _ _ h => h) (by rfl) hSd ?_ ?_
      rotate_left 1
      · intro w hSw
        obtain ⟨s1, s2, s3, s4, s5, s6⟩ := hSw
        go_simp
        try with_reducible rfl
      try simp only [Act.put, List.setIfInBounds_toArray, List.set_cons_zero, List.set_cons_succ]
      refine wpAnyF_takes (i := 9) (v := ?_) rfl (by kernel_rfl) (fun _ _ _ h => h) (by rfl) hSd ?_ ?_
      rotate_left 1
      · intro w hSw
        obtain ⟨s1, s2, s3, s4, s5, s6⟩ := hSw
        go_simp
        try with_reducible rfl
      try simp only [Act.put, List.setIfInBounds_toArray, List.set_cons_zero, List.set_cons_succ]
      refine wpAnyF_takes (i := 10) (v := ?_) rfl (by kernel_rfl) (fun _ _ _ h => h) (by rfl) hSd ?_ ?_
      rotate_left 1
      · intro w hSw
        obtain ⟨s1, s2, s3, s4, s5, s6⟩ := hSw
        go_simp
        try with_reducible rfl
      try simp only [Act.put, List.setIfInBounds_toArray, List.set_cons_zero, List.set_cons_succ]
      refine wpAnyF_takes (i := 12) (v := ?_) rfl (by kernel_rfl) (fun _ _ _ h => h) (by rfl) hSd ?_ ?_
      rotate_left 1
      · intro w hSw
        obtain ⟨s1, s2, s3, s4, s5, s6⟩ := hSw
        go_simp
        try with_reducible rfl
      try simp only [Act.put, List.setIfInBounds_toArray, List.set_cons_zero, List.set_cons_succ]
      refine wpAnyF_takes (i := 13) (v := ?_) rfl (by kernel_rfl) (fun _ _ _ h => h) (by rfl) hSd ?_ ?_
      rotate_left 1
      · intro w hSw
        obtain ⟨s1, s2, s3, s4, s5, s6⟩ := hSw
        go_simp
        try with_reducible rfl
      try simp only [Act.put, List.setIfInBounds_toArray, List.set_cons_zero, List.set_cons_succ]
      refine wpAnyF_takes (i := 14) (v := ?_) rfl (by kernel_rfl) (fun _ _ _ h => h) (by rfl) hSd ?_ ?_
      rotate_left 1
      · intro w hSw
        obtain ⟨s1, s2, s3, s4, s5, s6⟩ := hSw
        go_simp
        try with_reducible rfl
      try simp only [Act.put, List.setIfInBounds_toArray, List.set_cons_zero, List.set_cons_succ]
      refine wpAnyF_takes (i := 15) (v := ?_) rfl (by kernel_rfl) (fun _ _ _ h => h) (by rfl) hSd ?_ ?_
      rotate_left 1
      · intro w hSw
        obtain ⟨s1, s2, s3, s4, s5, s6⟩ := hSw
        go_simp
        try with_reducible rfl
      try simp only [Act.put, List.setIfInBounds_toArray, List.set_cons_zero, List.set_cons_succ]
      refine wpAnyF_takes (i := 16) (v := ?_) rfl (by kernel_rfl) (fun _ _ _ h => h) (by rfl) hSd ?_ ?_
      rotate_left 1
      · intro w hSw
        obtain ⟨s1, s2, s3, s4, s5, s6⟩ := hSw
        go_simp
        try with_reducible rfl
      try simp only [Act.put, List.setIfInBounds_toArray, List.set_cons_zero, List.set_cons_succ]
      refine wpAnyF_two (i := 11) (j := 17) rfl rfl (by kernel_rfl) ?_ ?_
      · intro K hK
        go_simp
        with_reducible refine (cloneInt_ok base lv _ _ wd (own_after HLV.out bd) (by omega) (by simp [natC_len]) (natC_one _)).mono ?_
        rintro e wE ⟨cv, rfl, hcv, hbE⟩
        have bE := bd.trans (hbE.mono bd.size)
        have bA : Below w5.heap.size w5 (wE.alloc (.cells #[.int .i64 V.length] 3)) := bE.trans ((Below.refl _ _).alloc bE.size _)
        refine hK.out _ _ (.inr (HC.out _ bE)) ?_
        clear hK K
        try simp only [Act.put, List.setIfInBounds_toArray, List.set_cons_zero, List.set_cons_succ]
        refine wpAnyF_next (i := 17) rfl (by kernel_rfl) (fun K hK => ?_)
        go_simp
        refine hK.out _ _ (.inr (HC.out _ bA)) ?_
        clear hK K
        try simp only [Act.put, List.setIfInBounds_toArray, List.set_cons_zero, List.set_cons_succ]
        have hcA : (wE.alloc (.cells #[.int .i64 V.length] 3)).ownsRow w5.heap.size 3 1 cv (idxP V (xc, xk, xd)).length (natC (idxP V (xc, xk, xd))) := own_down (hcv.alloc _) bd.size
        have hnews := World.news_of_block (cs := #[.int .i64 V.length]) (t := 3) (fr := (0, 0)) (heap_alloc_new wE _)
        refine wpAnyF_next (i := 18) rfl (by kernel_rfl) (fun K hK => ?_)
        refine step_append_lies _ (by rfl) _ _ _ (by rfl) w5.heap.size 3 i0 _ 1 8 Try.underlying101 hi hi0 hi1 hi2 rfl (by omega) _ (idxP V (xc, xk, xd)).length _ (by rfl) hcA ⟨wE.heap.size, 0, none⟩ 1 1 [.int .i64 V.length] (by rfl) (by rfl) hnews (by simp [Value.oneCell']) (by omega) (by unfold maxLen; omega) (by omega) bA.size _ rfl ?_
        intro g c2 wG hown hgrow hat hgt
        have bG : Below w5.heap.size w5 wG := bA.grown hgrow bA.size (fun q e => (own_cells hcA e).1)
        obtain ⟨w6, hst, hm6, hg6, hz6⟩ := (HE5.out.map.after bG).store (P := Try.prog) keyPk Try.underlying81 ⟨(xc, xk, xd), rfl⟩ (.slice (some ⟨g, 0, none⟩) ((idxP V (xc, xk, xd)).length + 1) c2)
        dsimp only [pkV] at hst
        refine hK.out _ _ (.inr (HC.out _ bG)) ?_
        clear hK K
        try simp only [Act.put, List.setIfInBounds_toArray, List.set_cons_zero, List.set_cons_succ]
        have HMT := Lib.hid (mid_of ⟨xs, xc, xk, xd, xn, xm, xp⟩ H5.out HE5.out bG hown hm6 hg6)
        clear hm6 hg6 hown hgrow hat hgt bG hnews hcA
        refine wpAnyF_next (i := 19) rfl (by kernel_rfl) (fun K hK => ?_)
        go_simp
        refine hK.out _ _ (.inl rfl) ?_
        clear hK K
        try simp only [Act.put, List.setIfInBounds_toArray, List.set_cons_zero, List.set_cons_succ]
        refine wpAnyF_done (by kernel_rfl) ?_ _
        have HM6 : Hid (StMid w6 base p bm sv V ⟨xs, xc, xk, xd, xn, xm, xp⟩) := HMT.out.1
        have HT6 : Hid (Turn [bm] w5 w6) := HMT.out.2
        have z6 := HT6.out.size
        have KV6 := Lib.hid (HT6.out.blk KV5.out (by simp; omega))
        have KR6 := Lib.hid (HT6.out.blk KR5.out (by simp; omega))
        have KO6 := Lib.hid (HT6.out.blk KO5.out (by simp; omega))
        clear HMT hst KV5 KR5 KO5 HC HE5 HLV HLK H5 KP5 bA bE hbE bd hSd
        go_wp2_with fail
        have hC : ∀ W, Below w6.heap.size w6 W → W.cell? ⟨p, 0, none⟩ = some (.slice a V.length cap) ∧ W.cell? ⟨w.heap.size, 0, none⟩ = some (.int .i64 xs) ∧ W.cell? ⟨w.heap.size, 1, none⟩ = some (.bool xc) ∧ W.cell? ⟨w.heap.size, 2, none⟩ = some (.int .i64 xk) ∧ W.cell? ⟨w.heap.size, 3, none⟩ = some (.int .i64 xd) ∧ W.cell? ⟨w.heap.size, 4, none⟩ = some (.int .i64 xn) ∧ W.cell? ⟨w.heap.size, 5, none⟩ = some (.int .i64 xm) ∧ W.cell? ⟨w.heap.size, 6, none⟩ = some (.int .i64 xp) := fun W hW => ⟨by rw [← HSV.out]; exact below_cell hW (HM6.out.blk.cell 0 rfl), below_cell hW (KV6.out.cell 0 rfl), below_cell hW (KV6.out.cell 1 rfl), below_cell hW (KV6.out.cell 2 rfl), below_cell hW (KV6.out.cell 3 rfl), below_cell hW (KV6.out.cell 4 rfl), below_cell hW (KV6.out.cell 5 rfl), below_cell hW (KV6.out.cell 6 rfl)⟩
        have HC := Lib.hid hC
        have bd : Below w6.heap.size w6 w6.drew := (Below.refl _ _).drew
        clear hC
        refine wp_region_final (fun W => W.cell? ⟨p, 0, none⟩ = some (.slice a V.length cap) ∧ W.cell? ⟨w.heap.size, 0, none⟩ = some (.int .i64 xs) ∧ W.cell? ⟨w.heap.size, 1, none⟩ = some (.bool xc) ∧ W.cell? ⟨w.heap.size, 2, none⟩ = some (.int .i64 xk) ∧ W.cell? ⟨w.heap.size, 3, none⟩ = some (.int .i64 xd) ∧ W.cell? ⟨w.heap.size, 4, none⟩ = some (.int .i64 xn) ∧ W.cell? ⟨w.heap.size, 5, none⟩ = some (.int .i64 xm) ∧ W.cell? ⟨w.heap.size, 6, none⟩ = some (.int .i64 xp)) 10 (by kernel_rfl) ?_
        have hSd := HC.out _ bd
        obtain ⟨wq, hwq⟩ : ∃ W, w6.drew = W := ⟨_, rfl⟩
        rw [hwq] at bd hSd ⊢
        clear hwq
        refine wpAnyF_takesI (i := 0) (v := ?_) rfl (by kernel_rfl) (fun _ _ _ h => h) (by rfl) hSd ?_ ?_
        rotate_left 1
        · intro w hSw
          obtain ⟨s1, s2, s3, s4, s5, s6, s7, s8⟩ := hSw
          go_simp
          try with_reducible rfl
        try simp only [Act.put, List.setIfInBounds_toArray, List.set_cons_zero, List.set_cons_succ]
        refine wpAnyF_takesI (i := 1) (v := ?_) rfl (by kernel_rfl) (fun _ _ _ h => h) (by rfl) hSd ?_ ?_
        rotate_left 1
        · intro w hSw
          obtain ⟨s1, s2, s3, s4, s5, s6, s7, s8⟩ := hSw
          go_simp
          try with_reducible rfl
        try simp only [Act.put, List.setIfInBounds_toArray, List.set_cons_zero, List.set_cons_succ]
        refine wpAnyF_takesI (i := 2) (v := ?_) rfl (by kernel_rfl) (fun _ _ _ h => h) (by rfl) hSd ?_ ?_
        rotate_left 1
        · intro w hSw
          obtain ⟨s1, s2, s3, s4, s5, s6, s7, s8⟩ := hSw
          go_simp
          try with_reducible rfl
        try simp only [Act.put, List.setIfInBounds_toArray, List.set_cons_zero, List.set_cons_succ]
        refine wpAnyF_takesI (i := 3) (v := ?_) rfl (by kernel_rfl) (fun _ _ _ h => h) (by rfl) hSd ?_ ?_
        rotate_left 1
        · intro w hSw
          obtain ⟨s1, s2, s3, s4, s5, s6, s7, s8⟩ := hSw
          go_simp
          try with_reducible rfl
        try simp only [Act.put, List.setIfInBounds_toArray, List.set_cons_zero, List.set_cons_succ]
        refine wpAnyF_takesI (i := 4) (v := ?_) rfl (by kernel_rfl) (fun _ _ _ h => h) (by rfl) hSd ?_ ?_
        rotate_left 1
        · intro w hSw
          obtain ⟨s1, s2, s3, s4, s5, s6, s7, s8⟩ := hSw
          go_simp
          try with_reducible rfl
        try simp only [Act.put, List.setIfInBounds_toArray, List.set_cons_zero, List.set_cons_succ]
        refine wpAnyF_takesI (i := 5) (v := ?_) rfl (by kernel_rfl) (fun _ _ _ h => h) (by rfl) hSd ?_ ?_
        rotate_left 1
        · intro w hSw
          obtain ⟨s1, s2, s3, s4, s5, s6, s7, s8⟩ := hSw
          go_simp
          try with_reducible rfl
        try simp only [Act.put, List.setIfInBounds_toArray, List.set_cons_zero, List.set_cons_succ]
        have bA : Below w6.heap.size w6 (wq.alloc (.cells #[.int .i64 xs, .bool xc, .int .i64 xk, .int .i64 xd, .int .i64 xn, .int .i64 xm, .int .i64 xp] 26)) := bd.trans ((Below.refl _ _).alloc bd.size _)
        refine wpAnyF_next (i := 6) rfl (by kernel_rfl) (fun K hK => ?_)
        go_simp
        refine hK.out _ _ (.inr (HC.out _ bA)) ?_
        clear hK K
        try simp only [Act.put, List.setIfInBounds_toArray, List.set_cons_zero, List.set_cons_succ]
        refine wpAnyF_next (i := 7) rfl (by kernel_rfl) (fun K hK => ?_)
        have hcA : (wq.alloc (.cells #[.int .i64 xs, .bool xc, .int .i64 xk, .int .i64 xd, .int .i64 xn, .int .i64 xm, .int .i64 xp] 26)).ownsRow base 26 7 (.slice a V.length cap) V.length (cellsL encS V) := by rw [← HSV.out]; exact own_after HM6.out.own bA
        refine step_append_lies _ (by rfl) _ _ _ (by rfl) base 26 v0 _ 7 56 Try.underlying35 hv hv0 hv1 hv2 rfl (by omega) _ V.length _ (by rfl) hcA ⟨wq.heap.size, 0, none⟩ 1 1 [.int .i64 xs, .bool xc, .int .i64 xk, .int .i64 xd, .int .i64 xn, .int .i64 xm, .int .i64 xp] (by rfl) (by rfl) (World.news_of_block (cs := #[.int .i64 xs, .bool xc, .int .i64 xk, .int .i64 xd, .int .i64 xn, .int .i64 xm, .int .i64 xp]) (t := 26) (fr := (0, 0)) (heap_alloc_new wq _)) (by simp [Value.oneCell']) (by omega) (by unfold maxLen; omega) (by omega) (by have := bA.size; omega) _ rfl ?_
        intro g c3 wG hown hgrow hat hgt
        have hgq : World.grownBy (wq.alloc (.cells #[.int .i64 xs, .bool xc, .int .i64 xk, .int .i64 xd, .int .i64 xn, .int .i64 xm, .int .i64 xp] 26)) wG sv.ownBlock := by rw [HSV.out]; exact hgrow
        have kG : Blk wG p #[sv, .map (some bm)] 83 := (HM6.out.blk.after bA).grown hgq (HM6.out.blk.own_ne HM6.out.own (by decide))
        have kVG := (KV6.out.after bA).grown hgq (HOB.out w.heap.size (by omega))
        have KRG := Lib.hid ((KR6.out.after bA).grown hgq (HOB.out (w.heap.size + 1) (by omega)))
        have KOG := Lib.hid ((KO6.out.after bA).grown hgq (HOB.out w2.heap.size (by omega)))
        have m0 : wG.cell? ⟨p, 0, none⟩ = some (.slice a V.length cap) := by rw [← HSV.out]; exact kG.cell 0 rfl
        have mf := kG.free 0
        have hSG : wG.cell? ⟨p, 0, none⟩ = some (.slice a V.length cap) ∧ wG.cell? ⟨w.heap.size, 0, none⟩ = some (.int .i64 xs) ∧ wG.cell? ⟨w.heap.size, 1, none⟩ = some (.bool xc) ∧ wG.cell? ⟨w.heap.size, 2, none⟩ = some (.int .i64 xk) ∧ wG.cell? ⟨w.heap.size, 3, none⟩ = some (.int .i64 xd) ∧ wG.cell? ⟨w.heap.size, 4, none⟩ = some (.int .i64 xn) ∧ wG.cell? ⟨w.heap.size, 5, none⟩ = some (.int .i64 xm) ∧ wG.cell? ⟨w.heap.size, 6, none⟩ = some (.int .i64 xp) := ⟨m0, kVG.cell 0 rfl, kVG.cell 1 rfl, kVG.cell 2 rfl, kVG.cell 3 rfl, kVG.cell 4 rfl, kVG.cell 5 rfl, kVG.cell 6 rfl⟩
        have HST := Lib.hid (HM6.out.put bA hgq hown)
        have hgf : ∀ x, (Value.slice (some ⟨g, 0, none⟩) (V.length + 1) c3).ownBlock = some x → sv.ownBlock = some x ∨ w2.heap.size < x := fun x e => by
          simp only [Value.ownBlock, Option.some.injEq] at e
          subst e
          rcases hat with h | h
          · exact Or.inl (by rw [HSV.out]; exact h)
          · have := bA.size
            exact Or.inr (by omega)
        have HGF := Lib.hid hgf
        refine hK.out _ _ (.inr hSG) ?_
        clear hK K hgf hown hat hgt kVG kG
        try simp only [Act.put, List.setIfInBounds_toArray, List.set_cons_zero, List.set_cons_succ]
        refine wpAnyF_next (i := 8) rfl (by kernel_rfl) (fun K hK => ?_)
        go_simp
        refine hK.out _ _ (.inr hSG) ?_
        clear hK K
        try simp only [Act.put, List.setIfInBounds_toArray, List.set_cons_zero, List.set_cons_succ]
        refine wpAnyF_next (i := 9) rfl (by kernel_rfl) (fun K hK => ?_)
        go_simp
        refine hK.out _ _ (.inr hSG) ?_
        clear hK K
        try simp only [Act.put, List.setIfInBounds_toArray, List.set_cons_zero, List.set_cons_succ]
        refine wpAnyF_next (i := 10) rfl (by kernel_rfl) (fun K hK => ?_)
        go_simp
        refine hK.out _ _ (.inl rfl) ?_
        clear hK K
        try simp only [Act.put, List.setIfInBounds_toArray, List.set_cons_zero, List.set_cons_succ]
        refine wpAnyF_done (by kernel_rfl) ?_ _
        have hst9 := HST.out
        have KR9 := KRG.out.far 0 (.slice (some ⟨g, 0, none⟩) (V.length + 1) c3) (show w.heap.size + 1 ≠ p by omega)
        have KO9 := KOG.out.far 0 (.slice (some ⟨g, 0, none⟩) (V.length + 1) c3) (show w2.heap.size ≠ p by omega)
        obtain ⟨w9, hw9⟩ : ∃ W, wG.setCell ⟨p, 0, none⟩ (.slice (some ⟨g, 0, none⟩) (V.length + 1) c3) = W := ⟨_, rfl⟩
        rw [hw9] at hst9 KR9 KO9 ⊢
        clear hw9 HST KRG KOG hSG m0 mf HC bd bA hSd HM6 KV6 KR6 KO6 hcA hgq
        have HST := Lib.hid hst9
        have KR9 := Lib.hid KR9
        have o0 : w9.cell? ⟨w2.heap.size, 0, none⟩ = some (.int .i64 os) := KO9.cell 0 rfl
        have o1 : w9.cell? ⟨w2.heap.size, 1, none⟩ = some (.bool oc) := KO9.cell 1 rfl
        have o2 : w9.cell? ⟨w2.heap.size, 2, none⟩ = some (.int .i64 ok) := KO9.cell 2 rfl
        have o3 : w9.cell? ⟨w2.heap.size, 3, none⟩ = some (.int .i64 od) := KO9.cell 3 rfl
        have o4 : w9.cell? ⟨w2.heap.size, 4, none⟩ = some (.int .i64 on) := KO9.cell 4 rfl
        have o5 : w9.cell? ⟨w2.heap.size, 5, none⟩ = some (.int .i64 om) := KO9.cell 5 rfl
        have o6 : w9.cell? ⟨w2.heap.size, 6, none⟩ = some (.int .i64 op) := KO9.cell 6 rfl
        have b0 : w9.cell? ⟨(w.heap.size + 1), 0, none⟩ = some (.int .i64 0) := (KR9.out).cell 0 rfl
        have b1 : w9.cell? ⟨(w.heap.size + 1), 1, none⟩ = some (.bool false) := (KR9.out).cell 1 rfl
        have b2 : w9.cell? ⟨(w.heap.size + 1), 2, none⟩ = some (.int .i64 0) := (KR9.out).cell 2 rfl
        have b3 : w9.cell? ⟨(w.heap.size + 1), 3, none⟩ = some (.int .i64 0) := (KR9.out).cell 3 rfl
        have b4 : w9.cell? ⟨(w.heap.size + 1), 4, none⟩ = some (.int .i64 0) := (KR9.out).cell 4 rfl
        have b5 : w9.cell? ⟨(w.heap.size + 1), 5, none⟩ = some (.int .i64 0) := (KR9.out).cell 5 rfl
        have b6 : w9.cell? ⟨(w.heap.size + 1), 6, none⟩ = some (.int .i64 0) := (KR9.out).cell 6 rfl
        have f0 := (KR9.out).free 0
        have f1 := (KR9.out).free 1
        have f2 := (KR9.out).free 2
        have f3 := (KR9.out).free 3
        have f4 := (KR9.out).free 4
        have f5 := (KR9.out).free 5
        have f6 := (KR9.out).free 6
        clear hst9 KO9
        go_wp2_with fail
        clear o0 o1 o2 o3 o4 o5 o6 b0 b1 b2 b3 b4 b5 b6 f0 f1 f2 f3 f4 f5 f6
        obtain ⟨w10, hw10⟩ : ∃ W, put7 w9 (w.heap.size + 1) ⟨os, oc, ok, od, on, om, op⟩ = W := ⟨_, rfl⟩
        have hK : Blk w10 (w.heap.size + 1) #[.int .i64 os, .bool oc, .int .i64 ok, .int .i64 od, .int .i64 on, .int .i64 om, .int .i64 op] 26 := by rw [← hw10]; exact set7 KR9.out _ _ _ _ _ _ _
        have ht : Turn [w.heap.size + 1] w9 w10 := by rw [← hw10]; exact put7_turn _ _ _
        have hb : Below w.heap.size w9 w10 := ht.below (by have := HST.out.2.size; have := HB5.out.size; omega) (by simp)
        simp only [put7] at hw10
        rw [hw10]
        clear hw10
        have e0 : w10.cell? ⟨w.heap.size + 1, 0, none⟩ = some (.int .i64 os) := hK.cell 0 rfl
        have e1 : w10.cell? ⟨w.heap.size + 1, 1, none⟩ = some (.bool oc) := hK.cell 1 rfl
        have e2 : w10.cell? ⟨w.heap.size + 1, 2, none⟩ = some (.int .i64 ok) := hK.cell 2 rfl
        have e3 : w10.cell? ⟨w.heap.size + 1, 3, none⟩ = some (.int .i64 od) := hK.cell 3 rfl
        have e4 : w10.cell? ⟨w.heap.size + 1, 4, none⟩ = some (.int .i64 on) := hK.cell 4 rfl
        have e5 : w10.cell? ⟨w.heap.size + 1, 5, none⟩ = some (.int .i64 om) := hK.cell 5 rfl
        have e6 : w10.cell? ⟨w.heap.size + 1, 6, none⟩ = some (.int .i64 op) := hK.cell 6 rfl
        refine bodyPost_ret (v := .tuple #[.agg #[.int .i64 os, .bool oc, .int .i64 ok, .int .i64 od, .int .i64 on, .int .i64 om, .int .i64 op], .bool true, .int .i64 0]) (by simp [results, Try.results55, go_sem, e0, e1, e2, e3, e4, e5, e6]) rfl ?_
        refine put_fin (v := ⟨xs, xc, xk, xd, xn, xm, xp⟩) HE.out HO.out HOD.out HIS.out (HST.out.1.turn ht (by simp; omega) (by simp; omega) (fun x e hx => ?_) (fun b hb cur hc => ?_)) ((((Turn.of_below HB5.out).trans (HT6.out.mono fun b hb => ?_)).trans (HST.out.2.mono fun b hb => ?_)).then_below hb) (fun x e => (HGF.out x e).imp id (by omega))
        · obtain rfl := List.mem_singleton.1 hx
          rcases HGF.out _ e with h | h
          · exact HOB.out _ (by omega) h
          · omega
        · obtain rfl := List.mem_singleton.1 hb
          have h2 : w9.heap[w.heap.size + 1]? = _ := KR9.out
          rw [h2] at hc
          simp at hc
        · obtain rfl := List.mem_singleton.1 hb
          simp [StAt.bs]
        · rcases List.mem_cons.1 hb with rfl | hb
          · simp [StAt.bs]
          · exact List.mem_cons_of_mem _ (List.mem_cons_of_mem _ hb)
      · intro K hK
        go_simp
        have bE : Below w5.heap.size w5 (wd.alloc (.cells #[.int .i64 V.length] 3)) := bd.trans ((Below.refl _ _).alloc bd.size _)
        refine hK.out _ _ (.inr (HC.out _ bE)) ?_
        clear hK K
        try simp only [Act.put, List.setIfInBounds_toArray, List.set_cons_zero, List.set_cons_succ]
        refine wpAnyF_next (i := 11) rfl (by kernel_rfl) (fun K hK => ?_)
        go_simp
        have hq : Blk (wd.alloc (.cells #[.int .i64 V.length] 3)) wd.heap.size #[.int .i64 V.length] 3 := Blk.new _ _ _
        with_reducible refine (cloneInt_ok base lv _ _ _ (own_after HLV.out bE) (by omega) (by simp [natC_len]) (natC_one _)).mono ?_
        rintro e wE ⟨cv, rfl, hcv, hbE⟩
        have hq2 : wE.heap[wd.heap.size]? = some (.cells #[.int .i64 V.length] 3 (0, 0)) := hq.after hbE
        have bA := bE.trans (hbE.mono bE.size)
        refine hK.out _ _ (.inr (HC.out _ bA)) ?_
        clear hK K
        try simp only [Act.put, List.setIfInBounds_toArray, List.set_cons_zero, List.set_cons_succ]
        have hcA : wE.ownsRow w5.heap.size 3 1 cv (idxP V (xc, xk, xd)).length (natC (idxP V (xc, xk, xd))) := own_down hcv bE.size
        have hnews := World.news_of_block (cs := #[.int .i64 V.length]) (t := 3) (fr := (0, 0)) hq2
        refine wpAnyF_next (i := 18) rfl (by kernel_rfl) (fun K hK => ?_)
        refine step_append_lies _ (by rfl) _ _ _ (by rfl) w5.heap.size 3 i0 _ 1 8 Try.underlying101 hi hi0 hi1 hi2 rfl (by omega) _ (idxP V (xc, xk, xd)).length _ (by rfl) hcA ⟨wd.heap.size, 0, none⟩ 1 1 [.int .i64 V.length] (by rfl) (by rfl) hnews (by simp [Value.oneCell']) (by omega) (by unfold maxLen; omega) (by omega) bA.size _ rfl ?_
        intro g c2 wG hown hgrow hat hgt
        have bG : Below w5.heap.size w5 wG := bA.grown hgrow bA.size (fun q e => (own_cells hcA e).1)
        obtain ⟨w6, hst, hm6, hg6, hz6⟩ := (HE5.out.map.after bG).store (P := Try.prog) keyPk Try.underlying81 ⟨(xc, xk, xd), rfl⟩ (.slice (some ⟨g, 0, none⟩) ((idxP V (xc, xk, xd)).length + 1) c2)
        dsimp only [pkV] at hst
        refine hK.out _ _ (.inr (HC.out _ bG)) ?_
        clear hK K
        try simp only [Act.put, List.setIfInBounds_toArray, List.set_cons_zero, List.set_cons_succ]
        have HMT := Lib.hid (mid_of ⟨xs, xc, xk, xd, xn, xm, xp⟩ H5.out HE5.out bG hown hm6 hg6)
        clear hm6 hg6 hown hgrow hat hgt bG hnews hcA
        refine wpAnyF_next (i := 19) rfl (by kernel_rfl) (fun K hK => ?_)
        go_simp
        refine hK.out _ _ (.inl rfl) ?_
        clear hK K
        try simp only [Act.put, List.setIfInBounds_toArray, List.set_cons_zero, List.set_cons_succ]
        refine wpAnyF_done (by kernel_rfl) ?_ _
        have HM6 : Hid (StMid w6 base p bm sv V ⟨xs, xc, xk, xd, xn, xm, xp⟩) := HMT.out.1
        have HT6 : Hid (Turn [bm] w5 w6) := HMT.out.2
        have z6 := HT6.out.size
        have KV6 := Lib.hid (HT6.out.blk KV5.out (by simp; omega))
        have KR6 := Lib.hid (HT6.out.blk KR5.out (by simp; omega))
        have KO6 := Lib.hid (HT6.out.blk KO5.out (by simp; omega))
        clear HMT hst KV5 KR5 KO5 HC HE5 HLV HLK H5 KP5 bA bE hbE bd hSd
        go_wp2_with fail
        have hC : ∀ W, Below w6.heap.size w6 W → W.cell? ⟨p, 0, none⟩ = some (.slice a V.length cap) ∧ W.cell? ⟨w.heap.size, 0, none⟩ = some (.int .i64 xs) ∧ W.cell? ⟨w.heap.size, 1, none⟩ = some (.bool xc) ∧ W.cell? ⟨w.heap.size, 2, none⟩ = some (.int .i64 xk) ∧ W.cell? ⟨w.heap.size, 3, none⟩ = some (.int .i64 xd) ∧ W.cell? ⟨w.heap.size, 4, none⟩ = some (.int .i64 xn) ∧ W.cell? ⟨w.heap.size, 5, none⟩ = some (.int .i64 xm) ∧ W.cell? ⟨w.heap.size, 6, none⟩ = some (.int .i64 xp) := fun W hW => ⟨by rw [← HSV.out]; exact below_cell hW (HM6.out.blk.cell 0 rfl), below_cell hW (KV6.out.cell 0 rfl), below_cell hW (KV6.out.cell 1 rfl), below_cell hW (KV6.out.cell 2 rfl), below_cell hW (KV6.out.cell 3 rfl), below_cell hW (KV6.out.cell 4 rfl), below_cell hW (KV6.out.cell 5 rfl), below_cell hW (KV6.out.cell 6 rfl)⟩
        have HC := Lib.hid hC
        have bd : Below w6.heap.size w6 w6.drew := (Below.refl _ _).drew
        clear hC
        refine wp_region_final (fun W => W.cell? ⟨p, 0, none⟩ = some (.slice a V.length cap) ∧ W.cell? ⟨w.heap.size, 0, none⟩ = some (.int .i64 xs) ∧ W.cell? ⟨w.heap.size, 1, none⟩ = some (.bool xc) ∧ W.cell? ⟨w.heap.size, 2, none⟩ = some (.int .i64 xk) ∧ W.cell? ⟨w.heap.size, 3, none⟩ = some (.int .i64 xd) ∧ W.cell? ⟨w.heap.size, 4, none⟩ = some (.int .i64 xn) ∧ W.cell? ⟨w.heap.size, 5, none⟩ = some (.int .i64 xm) ∧ W.cell? ⟨w.heap.size, 6, none⟩ = some (.int .i64 xp)) 10 (by kernel_rfl) ?_
        have hSd := HC.out _ bd
        obtain ⟨wq, hwq⟩ : ∃ W, w6.drew = W := ⟨_, rfl⟩
        rw [hwq] at bd hSd ⊢
        clear hwq
        refine wpAnyF_takesI (i := 0) (v := ?_) rfl (by kernel_rfl) (fun _ _ _ h => h) (by rfl) hSd ?_ ?_
        rotate_left 1
        · intro w hSw
          obtain ⟨s1, s2, s3, s4, s5, s6, s7, s8⟩ := hSw
          go_simp
          try with_reducible rfl
        try simp only [Act.put, List.setIfInBounds_toArray, List.set_cons_zero, List.set_cons_succ]
        refine wpAnyF_takesI (i := 1) (v := ?_) rfl (by kernel_rfl) (fun _ _ _ h => h) (by rfl) hSd ?_ ?_
        rotate_left 1
        · intro w hSw
          obtain ⟨s1, s2, s3, s4, s5, s6, s7, s8⟩ := hSw
          go_simp
          try with_reducible rfl
        try simp only [Act.put, List.setIfInBounds_toArray, List.set_cons_zero, List.set_cons_succ]
        refine wpAnyF_takesI (i := 2) (v := ?_) rfl (by kernel_rfl) (fun _ _ _ h => h) (by rfl) hSd ?_ ?_
        rotate_left 1
        · intro w hSw
          obtain ⟨s1, s2, s3, s4, s5, s6, s7, s8⟩ := hSw
          go_simp
          try with_reducible rfl
        try simp only [Act.put, List.setIfInBounds_toArray, List.set_cons_zero, List.set_cons_succ]
        refine wpAnyF_takesI (i := 3) (v := ?_) rfl (by kernel_rfl) (fun _ _ _ h => h) (by rfl) hSd ?_ ?_
        rotate_left 1
        · intro w hSw
          obtain ⟨s1, s2, s3, s4, s5, s6, s7, s8⟩ := hSw
          go_simp
          try with_reducible rfl
        try simp only [Act.put, List.setIfInBounds_toArray, List.set_cons_zero, List.set_cons_succ]
        refine wpAnyF_takesI (i := 4) (v := ?_) rfl (by kernel_rfl) (fun _ _ _ h => h) (by rfl) hSd ?_ ?_
        rotate_left 1
        · intro w hSw
          obtain ⟨s1, s2, s3, s4, s5, s6, s7, s8⟩ := hSw
          go_simp
          try with_reducible rfl
        try simp only [Act.put, List.setIfInBounds_toArray, List.set_cons_zero, List.set_cons_succ]
        refine wpAnyF_takesI (i := 5) (v := ?_) rfl (by kernel_rfl) (fun _ _ _ h => h) (by rfl) hSd ?_ ?_
        rotate_left 1
        · intro w hSw
          obtain ⟨s1, s2, s3, s4, s5, s6, s7, s8⟩ := hSw
          go_simp
          try with_reducible rfl
        try simp only [Act.put, List.setIfInBounds_toArray, List.set_cons_zero, List.set_cons_succ]
        have bA : Below w6.heap.size w6 (wq.alloc (.cells #[.int .i64 xs, .bool xc, .int .i64 xk, .int .i64 xd, .int .i64 xn, .int .i64 xm, .int .i64 xp] 26)) := bd.trans ((Below.refl _ _).alloc bd.size _)
        refine wpAnyF_next (i := 6) rfl (by kernel_rfl) (fun K hK => ?_)
        go_simp
        refine hK.out _ _ (.inr (HC.out _ bA)) ?_
        clear hK K
        try simp only [Act.put, List.setIfInBounds_toArray, List.set_cons_zero, List.set_cons_succ]
        refine wpAnyF_next (i := 7) rfl (by kernel_rfl) (fun K hK => ?_)
        have hcA : (wq.alloc (.cells #[.int .i64 xs, .bool xc, .int .i64 xk, .int .i64 xd, .int .i64 xn, .int .i64 xm, .int .i64 xp] 26)).ownsRow base 26 7 (.slice a V.length cap) V.length (cellsL encS V) := by rw [← HSV.out]; exact own_after HM6.out.own bA
        refine step_append_lies _ (by rfl) _ _ _ (by rfl) base 26 v0 _ 7 56 Try.underlying35 hv hv0 hv1 hv2 rfl (by omega) _ V.length _ (by rfl) hcA ⟨wq.heap.size, 0, none⟩ 1 1 [.int .i64 xs, .bool xc, .int .i64 xk, .int .i64 xd, .int .i64 xn, .int .i64 xm, .int .i64 xp] (by rfl) (by rfl) (World.news_of_block (cs := #[.int .i64 xs, .bool xc, .int .i64 xk, .int .i64 xd, .int .i64 xn, .int .i64 xm, .int .i64 xp]) (t := 26) (fr := (0, 0)) (heap_alloc_new wq _)) (by simp [Value.oneCell']) (by omega) (by unfold maxLen; omega) (by omega) (by have := bA.size; omega) _ rfl ?_
        intro g c3 wG hown hgrow hat hgt
        have hgq : World.grownBy (wq.alloc (.cells #[.int .i64 xs, .bool xc, .int .i64 xk, .int .i64 xd, .int .i64 xn, .int .i64 xm, .int .i64 xp] 26)) wG sv.ownBlock := by rw [HSV.out]; exact hgrow
        have kG : Blk wG p #[sv, .map (some bm)] 83 := (HM6.out.blk.after bA).grown hgq (HM6.out.blk.own_ne HM6.out.own (by decide))
        have kVG := (KV6.out.after bA).grown hgq (HOB.out w.heap.size (by omega))
        have KRG := Lib.hid ((KR6.out.after bA).grown hgq (HOB.out (w.heap.size + 1) (by omega)))
        have KOG := Lib.hid ((KO6.out.after bA).grown hgq (HOB.out w2.heap.size (by omega)))
        have m0 : wG.cell? ⟨p, 0, none⟩ = some (.slice a V.length cap) := by rw [← HSV.out]; exact kG.cell 0 rfl
        have mf := kG.free 0
        have hSG : wG.cell? ⟨p, 0, none⟩ = some (.slice a V.length cap) ∧ wG.cell? ⟨w.heap.size, 0, none⟩ = some (.int .i64 xs) ∧ wG.cell? ⟨w.heap.size, 1, none⟩ = some (.bool xc) ∧ wG.cell? ⟨w.heap.size, 2, none⟩ = some (.int .i64 xk) ∧ wG.cell? ⟨w.heap.size, 3, none⟩ = some (.int .i64 xd) ∧ wG.cell? ⟨w.heap.size, 4, none⟩ = some (.int .i64 xn) ∧ wG.cell? ⟨w.heap.size, 5, none⟩ = some (.int .i64 xm) ∧ wG.cell? ⟨w.heap.size, 6, none⟩ = some (.int .i64 xp) := ⟨m0, kVG.cell 0 rfl, kVG.cell 1 rfl, kVG.cell 2 rfl, kVG.cell 3 rfl, kVG.cell 4 rfl, kVG.cell 5 rfl, kVG.cell 6 rfl⟩
        have HST := Lib.hid (HM6.out.put bA hgq hown)
        have hgf : ∀ x, (Value.slice (some ⟨g, 0, none⟩) (V.length + 1) c3).ownBlock = some x → sv.ownBlock = some x ∨ w2.heap.size < x := fun x e => by
          simp only [Value.ownBlock, Option.some.injEq] at e
          subst e
          rcases hat with h | h
          · exact Or.inl (by rw [HSV.out]; exact h)
          · have := bA.size
            exact Or.inr (by omega)
        have HGF := Lib.hid hgf
        refine hK.out _ _ (.inr hSG) ?_
        clear hK K hgf hown hat hgt kVG kG
        try simp only [Act.put, List.setIfInBounds_toArray, List.set_cons_zero, List.set_cons_succ]
        refine wpAnyF_next (i := 8) rfl (by kernel_rfl) (fun K hK => ?_)
        go_simp
        refine hK.out _ _ (.inr hSG) ?_
        clear hK K
        try simp only [Act.put, List.setIfInBounds_toArray, List.set_cons_zero, List.set_cons_succ]
        refine wpAnyF_next (i := 9) rfl (by kernel_rfl) (fun K hK => ?_)
        go_simp
        refine hK.out _ _ (.inr hSG) ?_
        clear hK K
        try simp only [Act.put, List.setIfInBounds_toArray, List.set_cons_zero, List.set_cons_succ]
        refine wpAnyF_next (i := 10) rfl (by kernel_rfl) (fun K hK => ?_)
        go_simp
        refine hK.out _ _ (.inl rfl) ?_
        clear hK K
        try simp only [Act.put, List.setIfInBounds_toArray, List.set_cons_zero, List.set_cons_succ]
        refine wpAnyF_done (by kernel_rfl) ?_ _
        have hst9 := HST.out
        have KR9 := KRG.out.far 0 (.slice (some ⟨g, 0, none⟩) (V.length + 1) c3) (show w.heap.size + 1 ≠ p by omega)
        have KO9 := KOG.out.far 0 (.slice (some ⟨g, 0, none⟩) (V.length + 1) c3) (show w2.heap.size ≠ p by omega)
        obtain ⟨w9, hw9⟩ : ∃ W, wG.setCell ⟨p, 0, none⟩ (.slice (some ⟨g, 0, none⟩) (V.length + 1) c3) = W := ⟨_, rfl⟩
        rw [hw9] at hst9 KR9 KO9 ⊢
        clear hw9 HST KRG KOG hSG m0 mf HC bd bA hSd HM6 KV6 KR6 KO6 hcA hgq
        have HST := Lib.hid hst9
        have KR9 := Lib.hid KR9
        have o0 : w9.cell? ⟨w2.heap.size, 0, none⟩ = some (.int .i64 os) := KO9.cell 0 rfl
        have o1 : w9.cell? ⟨w2.heap.size, 1, none⟩ = some (.bool oc) := KO9.cell 1 rfl
        have o2 : w9.cell? ⟨w2.heap.size, 2, none⟩ = some (.int .i64 ok) := KO9.cell 2 rfl
        have o3 : w9.cell? ⟨w2.heap.size, 3, none⟩ = some (.int .i64 od) := KO9.cell 3 rfl
        have o4 : w9.cell? ⟨w2.heap.size, 4, none⟩ = some (.int .i64 on) := KO9.cell 4 rfl
        have o5 : w9.cell? ⟨w2.heap.size, 5, none⟩ = some (.int .i64 om) := KO9.cell 5 rfl
        have o6 : w9.cell? ⟨w2.heap.size, 6, none⟩ = some (.int .i64 op) := KO9.cell 6 rfl
        have b0 : w9.cell? ⟨(w.heap.size + 1), 0, none⟩ = some (.int .i64 0) := (KR9.out).cell 0 rfl
        have b1 : w9.cell? ⟨(w.heap.size + 1), 1, none⟩ = some (.bool false) := (KR9.out).cell 1 rfl
        have b2 : w9.cell? ⟨(w.heap.size + 1), 2, none⟩ = some (.int .i64 0) := (KR9.out).cell 2 rfl
        have b3 : w9.cell? ⟨(w.heap.size + 1), 3, none⟩ = some (.int .i64 0) := (KR9.out).cell 3 rfl
        have b4 : w9.cell? ⟨(w.heap.size + 1), 4, none⟩ = some (.int .i64 0) := (KR9.out).cell 4 rfl
        have b5 : w9.cell? ⟨(w.heap.size + 1), 5, none⟩ = some (.int .i64 0) := (KR9.out).cell 5 rfl
        have b6 : w9.cell? ⟨(w.heap.size + 1), 6, none⟩ = some (.int .i64 0) := (KR9.out).cell 6 rfl
        have f0 := (KR9.out).free 0
        have f1 := (KR9.out).free 1
        have f2 := (KR9.out).free 2
        have f3 := (KR9.out).free 3
        have f4 := (KR9.out).free 4
        have f5 := (KR9.out).free 5
        have f6 := (KR9.out).free 6
        clear hst9 KO9
        go_wp2_with fail
        clear o0 o1 o2 o3 o4 o5 o6 b0 b1 b2 b3 b4 b5 b6 f0 f1 f2 f3 f4 f5 f6
        obtain ⟨w10, hw10⟩ : ∃ W, put7 w9 (w.heap.size + 1) ⟨os, oc, ok, od, on, om, op⟩ = W := ⟨_, rfl⟩
        have hK : Blk w10 (w.heap.size + 1) #[.int .i64 os, .bool oc, .int .i64 ok, .int .i64 od, .int .i64 on, .int .i64 om, .int .i64 op] 26 := by rw [← hw10]; exact set7 KR9.out _ _ _ _ _ _ _
        have ht : Turn [w.heap.size + 1] w9 w10 := by rw [← hw10]; exact put7_turn _ _ _
        have hb : Below w.heap.size w9 w10 := ht.below (by have := HST.out.2.size; have := HB5.out.size; omega) (by simp)
        simp only [put7] at hw10
        rw [hw10]
        clear hw10
        have e0 : w10.cell? ⟨w.heap.size + 1, 0, none⟩ = some (.int .i64 os) := hK.cell 0 rfl
        have e1 : w10.cell? ⟨w.heap.size + 1, 1, none⟩ = some (.bool oc) := hK.cell 1 rfl
        have e2 : w10.cell? ⟨w.heap.size + 1, 2, none⟩ = some (.int .i64 ok) := hK.cell 2 rfl
        have e3 : w10.cell? ⟨w.heap.size + 1, 3, none⟩ = some (.int .i64 od) := hK.cell 3 rfl
        have e4 : w10.cell? ⟨w.heap.size + 1, 4, none⟩ = some (.int .i64 on) := hK.cell 4 rfl
        have e5 : w10.cell? ⟨w.heap.size + 1, 5, none⟩ = some (.int .i64 om) := hK.cell 5 rfl
        have e6 : w10.cell? ⟨w.heap.size + 1, 6, none⟩ = some (.int .i64 op) := hK.cell 6 rfl
        refine bodyPost_ret (v := .tuple #[.agg #[.int .i64 os, .bool oc, .int .i64 ok, .int .i64 od, .int .i64 on, .int .i64 om, .int .i64 op], .bool true, .int .i64 0]) (by simp [results, Try.results55, go_sem, e0, e1, e2, e3, e4, e5, e6]) rfl ?_
        refine put_fin (v := ⟨xs, xc, xk, xd, xn, xm, xp⟩) HE.out HO.out HOD.out HIS.out (HST.out.1.turn ht (by simp; omega) (by simp; omega) (fun x e hx => ?_) (fun b hb cur hc => ?_)) ((((Turn.of_below HB5.out).trans (HT6.out.mono fun b hb => ?_)).trans (HST.out.2.mono fun b hb => ?_)).then_below hb) (fun x e => (HGF.out x e).imp id (by omega))
        · obtain rfl := List.mem_singleton.1 hx
          rcases HGF.out _ e with h | h
          · exact HOB.out _ (by omega) h
          · omega
        · obtain rfl := List.mem_singleton.1 hb
          have h2 : w9.heap[w.heap.size + 1]? = _ := KR9.out
          rw [h2] at hc
          simp at hc
        · obtain rfl := List.mem_singleton.1 hb
          simp [StAt.bs]
        · rcases List.mem_cons.1 hb with rfl | hb
          · simp [StAt.bs]
          · exact List.mem_cons_of_mem _ (List.mem_cons_of_mem _ hb)
  | false =>
    have HE : Hid (putE V ⟨xs, xc, xk, xd, xn, xm, xp⟩ = 0) := putE_zero (fun h => HLT.1.out h) (fun h => HLT.2.out h) fun o h => by
      have h1 := HO.out.symm.trans h
      have h2 := HIS.out
      rw [h1] at h2
      cases h2
    go_wp2_with fail
    rw [HW3.out]
    have hpl : ∀ W, Calls Try.prog 70 #[.agg #[.int .i64 xs, .bool xc, .int .i64 xk, .int .i64 xd, .int .i64 xn, .int .i64 xm, .int .i64 xp]] W fun e w' => e = .returned (pkV (xc, xk, xd)) ∧ Below W.heap.size W w' := fun W => bplace_ok ⟨xs, xc, xk, xd, xn, xm, xp⟩ W
    with_reducible refine (hpl _).mono ?_
    clear hpl
    rintro e w4 ⟨rfl, hb4⟩
    have H4 := H3.out.after hb4
    have KV4 := KV3.out.after hb4
    have KR4 := KR3.out.after hb4
    have KO4 := KO3.out.after hb4
    have HB4 := HB3.out.trans (hb4.mono HB3.out.size)
    have z4 := hb4.size
    dsimp only [pkV]
    obtain ⟨w5, hw5⟩ : ∃ W, w4.alloc (.cells #[.bool xc, .int .i64 xk, .int .i64 xd] 93) = W := ⟨_, rfl⟩
    have hb5 : Below w4.heap.size w4 w5 := by rw [← hw5]; exact (Below.refl _ _).alloc (Nat.le_refl _) _
    have KP5 : Blk w5 w4.heap.size #[.bool xc, .int .i64 xk, .int .i64 xd] 93 := by rw [← hw5]; exact Blk.new _ _ _
    have HW5 := Lib.hid hw5
    have H5 := H4.after hb5
    have KV5 := Lib.hid (KV4.after hb5)
    have KR5 := Lib.hid (KR4.after hb5)
    have KO5 := Lib.hid (KO4.after hb5)
    have HB5 := Lib.hid (HB4.trans (hb5.mono HB4.size))
    have z5 := hb5.size
    clear hw5 H4 KV4 KR4 KO4 HB4 hb5 hb4 o0 y y1 y2 y3 y4 y5 y6 b0 b1 b2 b3 b4 b5 b6 f0 f1 f2 f3 f4 f5 f6 H3 KV3 KR3 KO3 HB3 HW3
    go_wp2_with fail
    rw [HW5.out]
    clear HW5
    obtain ⟨a, cap, hsv, _⟩ := owned_recs (enc := encS) (size := 7) (fun _ => rfl) H5.own rfl
    obtain ⟨E, hE⟩ := H5.map
    obtain ⟨lv, hlv1, hlv2⟩ := hE.look (xc, xk, xd)
    have HE5 := Lib.hid hE
    have HLV := Lib.hid hlv2
    have HSV := Lib.hid hsv
    have HLK : Hid (∀ W, Below w5.heap.size w5 W → (Instr.lookup 81 (.map (some bm)) (.agg #[.bool xc, .int .i64 xk, .int .i64 xd]) false).run Try.prog W = .ok lv W) := fun W hW => hlv1 W (hE.map.after hW)
    have bd : Below w5.heap.size w5 w5.drew := (Below.refl _ _).drew
    have HC : Hid (∀ W, Below w5.heap.size w5 W → W.cell? ⟨p, 0, none⟩ = some (.slice a V.length cap) ∧ W.cell? ⟨p, 1, none⟩ = some (.map (some bm)) ∧ W.cell? ⟨w4.heap.size, 0, none⟩ = some (.bool xc) ∧ W.cell? ⟨w4.heap.size, 1, none⟩ = some (.int .i64 xk) ∧ W.cell? ⟨w4.heap.size, 2, none⟩ = some (.int .i64 xd) ∧ (Instr.lookup 81 (.map (some bm)) (.agg #[.bool xc, .int .i64 xk, .int .i64 xd]) false).run Try.prog W = .ok lv W) := fun W hW => ⟨by rw [← HSV.out]; exact below_cell hW (H5.blk.cell 0 rfl), below_cell hW (H5.blk.cell 1 rfl), below_cell hW (KP5.cell 0 rfl), below_cell hW (KP5.cell 1 rfl), below_cell hW (KP5.cell 2 rfl), HLK.out W hW⟩
    have H5 := Lib.hid H5
    have KP5 := Lib.hid KP5
    clear hlv1 hlv2 hE hsv
    refine wp_region_final (fun w' => w'.cell? ⟨p, 0, none⟩ = some (.slice a V.length cap) ∧ w'.cell? ⟨p, 1, none⟩ = some (.map (some bm)) ∧ w'.cell? ⟨w4.heap.size, 0, none⟩ = some (.bool xc) ∧ w'.cell? ⟨w4.heap.size, 1, none⟩ = some (.int .i64 xk) ∧ w'.cell? ⟨w4.heap.size, 2, none⟩ = some (.int .i64 xd) ∧ (Instr.lookup 81 (.map (some bm)) (.agg #[.bool xc, .int .i64 xk, .int .i64 xd]) false).run Try.prog w' = .ok lv w') 19 (by kernel_rfl) ?_
    have hSd := HC.out _ bd
    obtain ⟨wd, hwd⟩ : ∃ W, w5.drew = W := ⟨_, rfl⟩
    rw [hwd] at bd hSd ⊢
    clear hwd
    refine wpAnyF_takes (i := 0) (v := ?_) rfl (by kernel_rfl) (fun _ _ _ h => h) (by rfl) hSd ?_ ?_
    rotate_left 1
    · intro w hSw
      obtain ⟨s1, s2, s3, s4, s5, s6⟩ := hSw
      go_simp
      try with_reducible rfl
    try simp only [Act.put, List.setIfInBounds_toArray, List.set_cons_zero, List.set_cons_succ]
    refine wpAnyF_takes (i := 1) (v := ?_) rfl (by kernel_rfl) (fun _ _ _ h => h) (by rfl) hSd ?_ ?_
    rotate_left 1
    · intro w hSw
      obtain ⟨s1, s2, s3, s4, s5, s6⟩ := hSw
      go_simp
      try with_reducible rfl
    try simp only [Act.put, List.setIfInBounds_toArray, List.set_cons_zero, List.set_cons_succ]
    refine wpAnyF_takes (i := 2) (v := ?_) rfl (by kernel_rfl) (fun _ _ _ h => h) (by rfl) hSd ?_ ?_
    rotate_left 1
    · intro w hSw
      obtain ⟨s1, s2, s3, s4, s5, s6⟩ := hSw
      go_simp
      try with_reducible rfl
    try simp only [Act.put, List.setIfInBounds_toArray, List.set_cons_zero, List.set_cons_succ]
    refine wpAnyF_takes (i := 3) (v := ?_) rfl (by kernel_rfl) (fun _ _ _ h => h) (by rfl) hSd ?_ ?_
    rotate_left 1
    · intro w hSw
      obtain ⟨s1, s2, s3, s4, s5, s6⟩ := hSw
      go_simp
      try with_reducible rfl
    try simp only [Act.put, List.setIfInBounds_toArray, List.set_cons_zero, List.set_cons_succ]
    refine wpAnyF_takes (i := 4) (v := ?_) rfl (by kernel_rfl) (fun _ _ _ h => h) (by rfl) hSd ?_ ?_
    rotate_left 1
    · intro w hSw
      obtain ⟨s1, s2, s3, s4, s5, s6⟩ := hSw
      go_simp
      try with_reducible rfl
    try simp only [Act.put, List.setIfInBounds_toArray, List.set_cons_zero, List.set_cons_succ]
    refine wpAnyF_takes (i := 5) (v := ?_) rfl (by kernel_rfl) (fun _ _ _ h => h) (by rfl) hSd ?_ ?_
    rotate_left 1
    · intro w hSw
      obtain ⟨s1, s2, s3, s4, s5, s6⟩ := hSw
      go_simp
      try with_reducible rfl
    try simp only [Act.put, List.setIfInBounds_toArray, List.set_cons_zero, List.set_cons_succ]
    refine wpAnyF_takes (i := 6) (v := ?_) rfl (by kernel_rfl) (fun _ _ _ h => h) (by rfl) hSd ?_ ?_
    rotate_left 1
    · intro w hSw
      obtain ⟨s1, s2, s3, s4, s5, s6⟩ := hSw
      go_simp
      try with_reducible rfl
    try simp only [Act.put, List.setIfInBounds_toArray, List.set_cons_zero, List.set_cons_succ]
    refine wpAnyF_takes (i := 7) (v := ?_) rfl (by kernel_rfl) (fun _ _ _ h => h) (by rfl) hSd ?_ ?_
    rotate_left 1
    · intro w hSw
      obtain ⟨s1, s2, s3, s4, s5, s6⟩ := hSw
      go_simp
      try with_reducible rfl
    try simp only [Act.put, List.setIfInBounds_toArray, List.set_cons_zero, List.set_cons_succ]
    refine wpAnyF_takes (i := 8) (v := ?_) rfl (by kernel_rfl) (fun _ _ _ h => h) (by rfl) hSd ?_ ?_
    rotate_left 1
    · intro w hSw
      obtain ⟨s1, s2, s3, s4, s5, s6⟩ := hSw
      go_simp
      try with_reducible rfl
    try simp only [Act.put, List.setIfInBounds_toArray, List.set_cons_zero, List.set_cons_succ]
    refine wpAnyF_takes (i := 9) (v := ?_) rfl (by kernel_rfl) (fun _ _ _ h => h) (by rfl) hSd ?_ ?_
    rotate_left 1
    · intro w hSw
      obtain ⟨s1, s2, s3, s4, s5, s6⟩ := hSw
      go_simp
      try with_reducible rfl
    try simp only [Act.put, List.setIfInBounds_toArray, List.set_cons_zero, List.set_cons_succ]
    refine wpAnyF_takes (i := 10) (v := ?_) rfl (by kernel_rfl) (fun _ _ _ h => h) (by rfl) hSd ?_ ?_
    rotate_left 1
    · intro w hSw
      obtain ⟨s1, s2, s3, s4, s5, s6⟩ := hSw
      go_simp
      try with_reducible rfl
    try simp only [Act.put, List.setIfInBounds_toArray, List.set_cons_zero, List.set_cons_succ]
    refine wpAnyF_takes (i := 12) (v := ?_) rfl (by kernel_rfl) (fun _ _ _ h => h) (by rfl) hSd ?_ ?_
    rotate_left 1
    · intro w hSw
      obtain ⟨s1, s2, s3, s4, s5, s6⟩ := hSw
      go_simp
      try with_reducible rfl
    try simp only [Act.put, List.setIfInBounds_toArray, List.set_cons_zero, List.set_cons_succ]
    refine wpAnyF_takes (i := 13) (v := ?_) rfl (by kernel_rfl) (fun _ _ _ h => h) (by rfl) hSd ?_ ?_
    rotate_left 1
    · intro w hSw
      obtain ⟨s1, s2, s3, s4, s5, s6⟩ := hSw
      go_simp
      try with_reducible rfl
    try simp only [Act.put, List.setIfInBounds_toArray, List.set_cons_zero, List.set_cons_succ]
    refine wpAnyF_takes (i := 14) (v := ?_) rfl (by kernel_rfl) (fun _ _ _ h => h) (by rfl) hSd ?_ ?_
    rotate_left 1
    · intro w hSw
      obtain ⟨s1, s2, s3, s4, s5, s6⟩ := hSw
      go_simp
      try with_reducible rfl
    try simp only [Act.put, List.setIfInBounds_toArray, List.set_cons_zero, List.set_cons_succ]
    refine wpAnyF_takes (i := 15) (v := ?_) rfl (by kernel_rfl) (fun _ _ _ h => h) (by rfl) hSd ?_ ?_
    rotate_left 1
    · intro w hSw
      obtain ⟨s1, s2, s3, s4, s5, s6⟩ := hSw
      go_simp
      try with_reducible rfl
    try simp only [Act.put, List.setIfInBounds_toArray, List.set_cons_zero, List.set_cons_succ]
    refine wpAnyF_takes (i := 16) (v := ?_) rfl (by kernel_rfl) (fun _ _ _ h => h) (by rfl) hSd ?_ ?_
    rotate_left 1
    · intro w hSw
      obtain ⟨s1, s2, s3, s4, s5, s6⟩ := hSw
      go_simp
      try with_reducible rfl
    try simp only [Act.put, List.setIfInBounds_toArray, List.set_cons_zero, List.set_cons_succ]
    refine wpAnyF_two (i := 11) (j := 17) rfl rfl (by kernel_rfl) ?_ ?_
    · intro K hK
      go_simp
      with_reducible refine (cloneInt_ok base lv _ _ wd (own_after HLV.out bd) (by omega) (by simp [natC_len]) (natC_one _)).mono ?_
      rintro e wE ⟨cv, rfl, hcv, hbE⟩
      have bE := bd.trans (hbE.mono bd.size)
      have bA : Below w5.heap.size w5 (wE.alloc (.cells #[.int .i64 V.length] 3)) := bE.trans ((Below.refl _ _).alloc bE.size _)
      refine hK.out _ _ (.inr (HC.out _ bE)) ?_
      clear hK K
      try simp only [Act.put, List.setIfInBounds_toArray, List.set_cons_zero, List.set_cons_succ]
      refine wpAnyF_next (i := 17) rfl (by kernel_rfl) (fun K hK => ?_)
      go_simp
      refine hK.out _ _ (.inr (HC.out _ bA)) ?_
      clear hK K
      try simp only [Act.put, List.setIfInBounds_toArray, List.set_cons_zero, List.set_cons_succ]
      have hcA : (wE.alloc (.cells #[.int .i64 V.length] 3)).ownsRow w5.heap.size 3 1 cv (idxP V (xc, xk, xd)).length (natC (idxP V (xc, xk, xd))) := own_down (hcv.alloc _) bd.size
      have hnews := World.news_of_block (cs := #[.int .i64 V.length]) (t := 3) (fr := (0, 0)) (heap_alloc_new wE _)
      refine wpAnyF_next (i := 18) rfl (by kernel_rfl) (fun K hK => ?_)
      refine step_append_lies _ (by rfl) _ _ _ (by rfl) w5.heap.size 3 i0 _ 1 8 Try.underlying101 hi hi0 hi1 hi2 rfl (by omega) _ (idxP V (xc, xk, xd)).length _ (by rfl) hcA ⟨wE.heap.size, 0, none⟩ 1 1 [.int .i64 V.length] (by rfl) (by rfl) hnews (by simp [Value.oneCell']) (by omega) (by unfold maxLen; omega) (by omega) bA.size _ rfl ?_
      intro g c2 wG hown hgrow hat hgt
      have bG : Below w5.heap.size w5 wG := bA.grown hgrow bA.size (fun q e => (own_cells hcA e).1)
      obtain ⟨w6, hst, hm6, hg6, hz6⟩ := (HE5.out.map.after bG).store (P := Try.prog) keyPk Try.underlying81 ⟨(xc, xk, xd), rfl⟩ (.slice (some ⟨g, 0, none⟩) ((idxP V (xc, xk, xd)).length + 1) c2)
      dsimp only [pkV] at hst
      refine hK.out _ _ (.inr (HC.out _ bG)) ?_
      clear hK K
      try simp only [Act.put, List.setIfInBounds_toArray, List.set_cons_zero, List.set_cons_succ]
      have HMT := Lib.hid (mid_of ⟨xs, xc, xk, xd, xn, xm, xp⟩ H5.out HE5.out bG hown hm6 hg6)
      clear hm6 hg6 hown hgrow hat hgt bG hnews hcA
      refine wpAnyF_next (i := 19) rfl (by kernel_rfl) (fun K hK => ?_)
      go_simp
      refine hK.out _ _ (.inl rfl) ?_
      clear hK K
      try simp only [Act.put, List.setIfInBounds_toArray, List.set_cons_zero, List.set_cons_succ]
      refine wpAnyF_done (by kernel_rfl) ?_ _
      have HM6 : Hid (StMid w6 base p bm sv V ⟨xs, xc, xk, xd, xn, xm, xp⟩) := HMT.out.1
      have HT6 : Hid (Turn [bm] w5 w6) := HMT.out.2
      have z6 := HT6.out.size
      have KV6 := Lib.hid (HT6.out.blk KV5.out (by simp; omega))
      have KR6 := Lib.hid (HT6.out.blk KR5.out (by simp; omega))
      have KO6 := Lib.hid (HT6.out.blk KO5.out (by simp; omega))
      clear HMT hst KV5 KR5 KO5 HC HE5 HLV HLK H5 KP5 bA bE hbE bd hSd
      go_wp2_with fail
      have hC : ∀ W, Below w6.heap.size w6 W → W.cell? ⟨p, 0, none⟩ = some (.slice a V.length cap) ∧ W.cell? ⟨w.heap.size, 0, none⟩ = some (.int .i64 xs) ∧ W.cell? ⟨w.heap.size, 1, none⟩ = some (.bool xc) ∧ W.cell? ⟨w.heap.size, 2, none⟩ = some (.int .i64 xk) ∧ W.cell? ⟨w.heap.size, 3, none⟩ = some (.int .i64 xd) ∧ W.cell? ⟨w.heap.size, 4, none⟩ = some (.int .i64 xn) ∧ W.cell? ⟨w.heap.size, 5, none⟩ = some (.int .i64 xm) ∧ W.cell? ⟨w.heap.size, 6, none⟩ = some (.int .i64 xp) := fun W hW => ⟨by rw [← HSV.out]; exact below_cell hW (HM6.out.blk.cell 0 rfl), below_cell hW (KV6.out.cell 0 rfl), below_cell hW (KV6.out.cell 1 rfl), below_cell hW (KV6.out.cell 2 rfl), below_cell hW (KV6.out.cell 3 rfl), below_cell hW (KV6.out.cell 4 rfl), below_cell hW (KV6.out.cell 5 rfl), below_cell hW (KV6.out.cell 6 rfl)⟩
      have HC := Lib.hid hC
      have bd : Below w6.heap.size w6 w6.drew := (Below.refl _ _).drew
      clear hC
      refine wp_region_final (fun W => W.cell? ⟨p, 0, none⟩ = some (.slice a V.length cap) ∧ W.cell? ⟨w.heap.size, 0, none⟩ = some (.int .i64 xs) ∧ W.cell? ⟨w.heap.size, 1, none⟩ = some (.bool xc) ∧ W.cell? ⟨w.heap.size, 2, none⟩ = some (.int .i64 xk) ∧ W.cell? ⟨w.heap.size, 3, none⟩ = some (.int .i64 xd) ∧ W.cell? ⟨w.heap.size, 4, none⟩ = some (.int .i64 xn) ∧ W.cell? ⟨w.heap.size, 5, none⟩ = some (.int .i64 xm) ∧ W.cell? ⟨w.heap.size, 6, none⟩ = some (.int .i64 xp)) 10 (by kernel_rfl) ?_
      have hSd := HC.out _ bd
      obtain ⟨wq, hwq⟩ : ∃ W, w6.drew = W := ⟨_, rfl⟩
      rw [hwq] at bd hSd ⊢
      clear hwq
      refine wpAnyF_takesI (i := 0) (v := ?_) rfl (by kernel_rfl) (fun _ _ _ h => h) (by rfl) hSd ?_ ?_
      rotate_left 1
      · intro w hSw
        obtain ⟨s1, s2, s3, s4, s5, s6, s7, s8⟩ := hSw
        go_simp
        try with_reducible rfl
      try simp only [Act.put, List.setIfInBounds_toArray, List.set_cons_zero, List.set_cons_succ]
      refine wpAnyF_takesI (i := 1) (v := ?_) rfl (by kernel_rfl) (fun _ _ _ h => h) (by rfl) hSd ?_ ?_
      rotate_left 1
      · intro w hSw
        obtain ⟨s1, s2, s3, s4, s5, s6, s7, s8⟩ := hSw
        go_simp
        try with_reducible rfl
      try simp only [Act.put, List.setIfInBounds_toArray, List.set_cons_zero, List.set_cons_succ]
      refine wpAnyF_takesI (i := 2) (v := ?_) rfl (by kernel_rfl) (fun _ _ _ h => h) (by rfl) hSd ?_ ?_
      rotate_left 1
      · intro w hSw
        obtain ⟨s1, s2, s3, s4, s5, s6, s7, s8⟩ := hSw
        go_simp
        try with_reducible rfl
      try simp only [Act.put, List.setIfInBounds_toArray, List.set_cons_zero, List.set_cons_succ]
      refine wpAnyF_takesI (i := 3) (v := ?_) rfl (by kernel_rfl) (fun _ _ _ h => h) (by rfl) hSd ?_ ?_
      rotate_left 1
      · intro w hSw
        obtain ⟨s1, s2, s3, s4, s5, s6, s7, s8⟩ := hSw
        go_simp
        try with_reducible rfl
      try simp only [Act.put, List.setIfInBounds_toArray, List.set_cons_zero, List.set_cons_succ]
      refine wpAnyF_takesI (i := 4) (v := ?_) rfl (by kernel_rfl) (fun _ _ _ h => h) (by rfl) hSd ?_ ?_
      rotate_left 1
      · intro w hSw
        obtain ⟨s1, s2, s3, s4, s5, s6, s7, s8⟩ := hSw
        go_simp
        try with_reducible rfl
      try simp only [Act.put, List.setIfInBounds_toArray, List.set_cons_zero, List.set_cons_succ]
      refine wpAnyF_takesI (i := 5) (v := ?_) rfl (by kernel_rfl) (fun _ _ _ h => h) (by rfl) hSd ?_ ?_
      rotate_left 1
      · intro w hSw
        obtain ⟨s1, s2, s3, s4, s5, s6, s7, s8⟩ := hSw
        go_simp
        try with_reducible rfl
      try simp only [Act.put, List.setIfInBounds_toArray, List.set_cons_zero, List.set_cons_succ]
      have bA : Below w6.heap.size w6 (wq.alloc (.cells #[.int .i64 xs, .bool xc, .int .i64 xk, .int .i64 xd, .int .i64 xn, .int .i64 xm, .int .i64 xp] 26)) := bd.trans ((Below.refl _ _).alloc bd.size _)
      refine wpAnyF_next (i := 6) rfl (by kernel_rfl) (fun K hK => ?_)
      go_simp
      refine hK.out _ _ (.inr (HC.out _ bA)) ?_
      clear hK K
      try simp only [Act.put, List.setIfInBounds_toArray, List.set_cons_zero, List.set_cons_succ]
      refine wpAnyF_next (i := 7) rfl (by kernel_rfl) (fun K hK => ?_)
      have hcA : (wq.alloc (.cells #[.int .i64 xs, .bool xc, .int .i64 xk, .int .i64 xd, .int .i64 xn, .int .i64 xm, .int .i64 xp] 26)).ownsRow base 26 7 (.slice a V.length cap) V.length (cellsL encS V) := by rw [← HSV.out]; exact own_after HM6.out.own bA
      refine step_append_lies _ (by rfl) _ _ _ (by rfl) base 26 v0 _ 7 56 Try.underlying35 hv hv0 hv1 hv2 rfl (by omega) _ V.length _ (by rfl) hcA ⟨wq.heap.size, 0, none⟩ 1 1 [.int .i64 xs, .bool xc, .int .i64 xk, .int .i64 xd, .int .i64 xn, .int .i64 xm, .int .i64 xp] (by rfl) (by rfl) (World.news_of_block (cs := #[.int .i64 xs, .bool xc, .int .i64 xk, .int .i64 xd, .int .i64 xn, .int .i64 xm, .int .i64 xp]) (t := 26) (fr := (0, 0)) (heap_alloc_new wq _)) (by simp [Value.oneCell']) (by omega) (by unfold maxLen; omega) (by omega) (by have := bA.size; omega) _ rfl ?_
      intro g c3 wG hown hgrow hat hgt
      have hgq : World.grownBy (wq.alloc (.cells #[.int .i64 xs, .bool xc, .int .i64 xk, .int .i64 xd, .int .i64 xn, .int .i64 xm, .int .i64 xp] 26)) wG sv.ownBlock := by rw [HSV.out]; exact hgrow
      have kG : Blk wG p #[sv, .map (some bm)] 83 := (HM6.out.blk.after bA).grown hgq (HM6.out.blk.own_ne HM6.out.own (by decide))
      have kVG := (KV6.out.after bA).grown hgq (HOB.out w.heap.size (by omega))
      have KRG := Lib.hid ((KR6.out.after bA).grown hgq (HOB.out (w.heap.size + 1) (by omega)))
      have KOG := Lib.hid ((KO6.out.after bA).grown hgq (HOB.out w2.heap.size (by omega)))
      have m0 : wG.cell? ⟨p, 0, none⟩ = some (.slice a V.length cap) := by rw [← HSV.out]; exact kG.cell 0 rfl
      have mf := kG.free 0
      have hSG : wG.cell? ⟨p, 0, none⟩ = some (.slice a V.length cap) ∧ wG.cell? ⟨w.heap.size, 0, none⟩ = some (.int .i64 xs) ∧ wG.cell? ⟨w.heap.size, 1, none⟩ = some (.bool xc) ∧ wG.cell? ⟨w.heap.size, 2, none⟩ = some (.int .i64 xk) ∧ wG.cell? ⟨w.heap.size, 3, none⟩ = some (.int .i64 xd) ∧ wG.cell? ⟨w.heap.size, 4, none⟩ = some (.int .i64 xn) ∧ wG.cell? ⟨w.heap.size, 5, none⟩ = some (.int .i64 xm) ∧ wG.cell? ⟨w.heap.size, 6, none⟩ = some (.int .i64 xp) := ⟨m0, kVG.cell 0 rfl, kVG.cell 1 rfl, kVG.cell 2 rfl, kVG.cell 3 rfl, kVG.cell 4 rfl, kVG.cell 5 rfl, kVG.cell 6 rfl⟩
      have HST := Lib.hid (HM6.out.put bA hgq hown)
      have hgf : ∀ x, (Value.slice (some ⟨g, 0, none⟩) (V.length + 1) c3).ownBlock = some x → sv.ownBlock = some x ∨ w2.heap.size < x := fun x e => by
        simp only [Value.ownBlock, Option.some.injEq] at e
        subst e
        rcases hat with h | h
        · exact Or.inl (by rw [HSV.out]; exact h)
        · have := bA.size
          exact Or.inr (by omega)
      have HGF := Lib.hid hgf
      refine hK.out _ _ (.inr hSG) ?_
      clear hK K hgf hown hat hgt kVG kG
      try simp only [Act.put, List.setIfInBounds_toArray, List.set_cons_zero, List.set_cons_succ]
      refine wpAnyF_next (i := 8) rfl (by kernel_rfl) (fun K hK => ?_)
      go_simp
      refine hK.out _ _ (.inr hSG) ?_
      clear hK K
      try simp only [Act.put, List.setIfInBounds_toArray, List.set_cons_zero, List.set_cons_succ]
      refine wpAnyF_next (i := 9) rfl (by kernel_rfl) (fun K hK => ?_)
      go_simp
      refine hK.out _ _ (.inr hSG) ?_
      clear hK K
      try simp only [Act.put, List.setIfInBounds_toArray, List.set_cons_zero, List.set_cons_succ]
      refine wpAnyF_next (i := 10) rfl (by kernel_rfl) (fun K hK => ?_)
      go_simp
      refine hK.out _ _ (.inl rfl) ?_
      clear hK K
      try simp only [Act.put, List.setIfInBounds_toArray, List.set_cons_zero, List.set_cons_succ]
      refine wpAnyF_done (by kernel_rfl) ?_ _
      have hst9 := HST.out
      have KR9 := KRG.out.far 0 (.slice (some ⟨g, 0, none⟩) (V.length + 1) c3) (show w.heap.size + 1 ≠ p by omega)
      have KO9 := KOG.out.far 0 (.slice (some ⟨g, 0, none⟩) (V.length + 1) c3) (show w2.heap.size ≠ p by omega)
      obtain ⟨w9, hw9⟩ : ∃ W, wG.setCell ⟨p, 0, none⟩ (.slice (some ⟨g, 0, none⟩) (V.length + 1) c3) = W := ⟨_, rfl⟩
      rw [hw9] at hst9 KR9 KO9 ⊢
      clear hw9 HST KRG KOG hSG m0 mf HC bd bA hSd HM6 KV6 KR6 KO6 hcA hgq
      have HST := Lib.hid hst9
      have KR9 := Lib.hid KR9
      have o0 : w9.cell? ⟨w2.heap.size, 0, none⟩ = some (.int .i64 os) := KO9.cell 0 rfl
      have o1 : w9.cell? ⟨w2.heap.size, 1, none⟩ = some (.bool oc) := KO9.cell 1 rfl
      have o2 : w9.cell? ⟨w2.heap.size, 2, none⟩ = some (.int .i64 ok) := KO9.cell 2 rfl
      have o3 : w9.cell? ⟨w2.heap.size, 3, none⟩ = some (.int .i64 od) := KO9.cell 3 rfl
      have o4 : w9.cell? ⟨w2.heap.size, 4, none⟩ = some (.int .i64 on) := KO9.cell 4 rfl
      have o5 : w9.cell? ⟨w2.heap.size, 5, none⟩ = some (.int .i64 om) := KO9.cell 5 rfl
      have o6 : w9.cell? ⟨w2.heap.size, 6, none⟩ = some (.int .i64 op) := KO9.cell 6 rfl
      have b0 : w9.cell? ⟨(w.heap.size + 1), 0, none⟩ = some (.int .i64 0) := (KR9.out).cell 0 rfl
      have b1 : w9.cell? ⟨(w.heap.size + 1), 1, none⟩ = some (.bool false) := (KR9.out).cell 1 rfl
      have b2 : w9.cell? ⟨(w.heap.size + 1), 2, none⟩ = some (.int .i64 0) := (KR9.out).cell 2 rfl
      have b3 : w9.cell? ⟨(w.heap.size + 1), 3, none⟩ = some (.int .i64 0) := (KR9.out).cell 3 rfl
      have b4 : w9.cell? ⟨(w.heap.size + 1), 4, none⟩ = some (.int .i64 0) := (KR9.out).cell 4 rfl
      have b5 : w9.cell? ⟨(w.heap.size + 1), 5, none⟩ = some (.int .i64 0) := (KR9.out).cell 5 rfl
      have b6 : w9.cell? ⟨(w.heap.size + 1), 6, none⟩ = some (.int .i64 0) := (KR9.out).cell 6 rfl
      have f0 := (KR9.out).free 0
      have f1 := (KR9.out).free 1
      have f2 := (KR9.out).free 2
      have f3 := (KR9.out).free 3
      have f4 := (KR9.out).free 4
      have f5 := (KR9.out).free 5
      have f6 := (KR9.out).free 6
      clear hst9 KO9
      go_wp2_with fail
      clear o0 o1 o2 o3 o4 o5 o6 b0 b1 b2 b3 b4 b5 b6 f0 f1 f2 f3 f4 f5 f6
      obtain ⟨w10, hw10⟩ : ∃ W, put7 w9 (w.heap.size + 1) ⟨os, oc, ok, od, on, om, op⟩ = W := ⟨_, rfl⟩
      have hK : Blk w10 (w.heap.size + 1) #[.int .i64 os, .bool oc, .int .i64 ok, .int .i64 od, .int .i64 on, .int .i64 om, .int .i64 op] 26 := by rw [← hw10]; exact set7 KR9.out _ _ _ _ _ _ _
      have ht : Turn [w.heap.size + 1] w9 w10 := by rw [← hw10]; exact put7_turn _ _ _
      have hb : Below w.heap.size w9 w10 := ht.below (by have := HST.out.2.size; have := HB5.out.size; omega) (by simp)
      simp only [put7] at hw10
      rw [hw10]
      clear hw10
      have e0 : w10.cell? ⟨w.heap.size + 1, 0, none⟩ = some (.int .i64 os) := hK.cell 0 rfl
      have e1 : w10.cell? ⟨w.heap.size + 1, 1, none⟩ = some (.bool oc) := hK.cell 1 rfl
      have e2 : w10.cell? ⟨w.heap.size + 1, 2, none⟩ = some (.int .i64 ok) := hK.cell 2 rfl
      have e3 : w10.cell? ⟨w.heap.size + 1, 3, none⟩ = some (.int .i64 od) := hK.cell 3 rfl
      have e4 : w10.cell? ⟨w.heap.size + 1, 4, none⟩ = some (.int .i64 on) := hK.cell 4 rfl
      have e5 : w10.cell? ⟨w.heap.size + 1, 5, none⟩ = some (.int .i64 om) := hK.cell 5 rfl
      have e6 : w10.cell? ⟨w.heap.size + 1, 6, none⟩ = some (.int .i64 op) := hK.cell 6 rfl
      refine bodyPost_ret (v := .tuple #[.agg #[.int .i64 os, .bool oc, .int .i64 ok, .int .i64 od, .int .i64 on, .int .i64 om, .int .i64 op], .bool false, .int .i64 0]) (by simp [results, Try.results55, go_sem, e0, e1, e2, e3, e4, e5, e6]) rfl ?_
      refine put_fin (v := ⟨xs, xc, xk, xd, xn, xm, xp⟩) HE.out HO.out HOD.out HIS.out (HST.out.1.turn ht (by simp; omega) (by simp; omega) (fun x e hx => ?_) (fun b hb cur hc => ?_)) ((((Turn.of_below HB5.out).trans (HT6.out.mono fun b hb => ?_)).trans (HST.out.2.mono fun b hb => ?_)).then_below hb) (fun x e => (HGF.out x e).imp id (by omega))
      · obtain rfl := List.mem_singleton.1 hx
        rcases HGF.out _ e with h | h
        · exact HOB.out _ (by omega) h
        · omega
      · obtain rfl := List.mem_singleton.1 hb
        have h2 : w9.heap[w.heap.size + 1]? = _ := KR9.out
        rw [h2] at hc
        simp at hc
      · obtain rfl := List.mem_singleton.1 hb
        simp [StAt.bs]
      · rcases List.mem_cons.1 hb with rfl | hb
        · simp [StAt.bs]
        · exact List.mem_cons_of_mem _ (List.mem_cons_of_mem _ hb)
    · intro K hK
      go_simp
      have bE : Below w5.heap.size w5 (wd.alloc (.cells #[.int .i64 V.length] 3)) := bd.trans ((Below.refl _ _).alloc bd.size _)
      refine hK.out _ _ (.inr (HC.out _ bE)) ?_
      clear hK K
      try simp only [Act.put, List.setIfInBounds_toArray, List.set_cons_zero, List.set_cons_succ]
      refine wpAnyF_next (i := 11) rfl (by kernel_rfl) (fun K hK => ?_)
      go_simp
      have hq : Blk (wd.alloc (.cells #[.int .i64 V.length] 3)) wd.heap.size #[.int .i64 V.length] 3 := Blk.new _ _ _
      with_reducible refine (cloneInt_ok base lv _ _ _ (own_after HLV.out bE) (by omega) (by simp [natC_len]) (natC_one _)).mono ?_
      rintro e wE ⟨cv, rfl, hcv, hbE⟩
      have hq2 : wE.heap[wd.heap.size]? = some (.cells #[.int .i64 V.length] 3 (0, 0)) := hq.after hbE
      have bA := bE.trans (hbE.mono bE.size)
      refine hK.out _ _ (.inr (HC.out _ bA)) ?_
      clear hK K
      try simp only [Act.put, List.setIfInBounds_toArray, List.set_cons_zero, List.set_cons_succ]
      have hcA : wE.ownsRow w5.heap.size 3 1 cv (idxP V (xc, xk, xd)).length (natC (idxP V (xc, xk, xd))) := own_down hcv bE.size
      have hnews := World.news_of_block (cs := #[.int .i64 V.length]) (t := 3) (fr := (0, 0)) hq2
      refine wpAnyF_next (i := 18) rfl (by kernel_rfl) (fun K hK => ?_)
      refine step_append_lies _ (by rfl) _ _ _ (by rfl) w5.heap.size 3 i0 _ 1 8 Try.underlying101 hi hi0 hi1 hi2 rfl (by omega) _ (idxP V (xc, xk, xd)).length _ (by rfl) hcA ⟨wd.heap.size, 0, none⟩ 1 1 [.int .i64 V.length] (by rfl) (by rfl) hnews (by simp [Value.oneCell']) (by omega) (by unfold maxLen; omega) (by omega) bA.size _ rfl ?_
      intro g c2 wG hown hgrow hat hgt
      have bG : Below w5.heap.size w5 wG := bA.grown hgrow bA.size (fun q e => (own_cells hcA e).1)
      obtain ⟨w6, hst, hm6, hg6, hz6⟩ := (HE5.out.map.after bG).store (P := Try.prog) keyPk Try.underlying81 ⟨(xc, xk, xd), rfl⟩ (.slice (some ⟨g, 0, none⟩) ((idxP V (xc, xk, xd)).length + 1) c2)
      dsimp only [pkV] at hst
      refine hK.out _ _ (.inr (HC.out _ bG)) ?_
      clear hK K
      try simp only [Act.put, List.setIfInBounds_toArray, List.set_cons_zero, List.set_cons_succ]
      have HMT := Lib.hid (mid_of ⟨xs, xc, xk, xd, xn, xm, xp⟩ H5.out HE5.out bG hown hm6 hg6)
      clear hm6 hg6 hown hgrow hat hgt bG hnews hcA
      refine wpAnyF_next (i := 19) rfl (by kernel_rfl) (fun K hK => ?_)
      go_simp
      refine hK.out _ _ (.inl rfl) ?_
      clear hK K
      try simp only [Act.put, List.setIfInBounds_toArray, List.set_cons_zero, List.set_cons_succ]
      refine wpAnyF_done (by kernel_rfl) ?_ _
      have HM6 : Hid (StMid w6 base p bm sv V ⟨xs, xc, xk, xd, xn, xm, xp⟩) := HMT.out.1
      have HT6 : Hid (Turn [bm] w5 w6) := HMT.out.2
      have z6 := HT6.out.size
      have KV6 := Lib.hid (HT6.out.blk KV5.out (by simp; omega))
      have KR6 := Lib.hid (HT6.out.blk KR5.out (by simp; omega))
      have KO6 := Lib.hid (HT6.out.blk KO5.out (by simp; omega))
      clear HMT hst KV5 KR5 KO5 HC HE5 HLV HLK H5 KP5 bA bE hbE bd hSd
      go_wp2_with fail
      have hC : ∀ W, Below w6.heap.size w6 W → W.cell? ⟨p, 0, none⟩ = some (.slice a V.length cap) ∧ W.cell? ⟨w.heap.size, 0, none⟩ = some (.int .i64 xs) ∧ W.cell? ⟨w.heap.size, 1, none⟩ = some (.bool xc) ∧ W.cell? ⟨w.heap.size, 2, none⟩ = some (.int .i64 xk) ∧ W.cell? ⟨w.heap.size, 3, none⟩ = some (.int .i64 xd) ∧ W.cell? ⟨w.heap.size, 4, none⟩ = some (.int .i64 xn) ∧ W.cell? ⟨w.heap.size, 5, none⟩ = some (.int .i64 xm) ∧ W.cell? ⟨w.heap.size, 6, none⟩ = some (.int .i64 xp) := fun W hW => ⟨by rw [← HSV.out]; exact below_cell hW (HM6.out.blk.cell 0 rfl), below_cell hW (KV6.out.cell 0 rfl), below_cell hW (KV6.out.cell 1 rfl), below_cell hW (KV6.out.cell 2 rfl), below_cell hW (KV6.out.cell 3 rfl), below_cell hW (KV6.out.cell 4 rfl), below_cell hW (KV6.out.cell 5 rfl), below_cell hW (KV6.out.cell 6 rfl)⟩
      have HC := Lib.hid hC
      have bd : Below w6.heap.size w6 w6.drew := (Below.refl _ _).drew
      clear hC
      refine wp_region_final (fun W => W.cell? ⟨p, 0, none⟩ = some (.slice a V.length cap) ∧ W.cell? ⟨w.heap.size, 0, none⟩ = some (.int .i64 xs) ∧ W.cell? ⟨w.heap.size, 1, none⟩ = some (.bool xc) ∧ W.cell? ⟨w.heap.size, 2, none⟩ = some (.int .i64 xk) ∧ W.cell? ⟨w.heap.size, 3, none⟩ = some (.int .i64 xd) ∧ W.cell? ⟨w.heap.size, 4, none⟩ = some (.int .i64 xn) ∧ W.cell? ⟨w.heap.size, 5, none⟩ = some (.int .i64 xm) ∧ W.cell? ⟨w.heap.size, 6, none⟩ = some (.int .i64 xp)) 10 (by kernel_rfl) ?_
      have hSd := HC.out _ bd
      obtain ⟨wq, hwq⟩ : ∃ W, w6.drew = W := ⟨_, rfl⟩
      rw [hwq] at bd hSd ⊢
      clear hwq
      refine wpAnyF_takesI (i := 0) (v := ?_) rfl (by kernel_rfl) (fun _ _ _ h => h) (by rfl) hSd ?_ ?_
      rotate_left 1
      · intro w hSw
        obtain ⟨s1, s2, s3, s4, s5, s6, s7, s8⟩ := hSw
        go_simp
        try with_reducible rfl
      try simp only [Act.put, List.setIfInBounds_toArray, List.set_cons_zero, List.set_cons_succ]
      refine wpAnyF_takesI (i := 1) (v := ?_) rfl (by kernel_rfl) (fun _ _ _ h => h) (by rfl) hSd ?_ ?_
      rotate_left 1
      · intro w hSw
        obtain ⟨s1, s2, s3, s4, s5, s6, s7, s8⟩ := hSw
        go_simp
        try with_reducible rfl
      try simp only [Act.put, List.setIfInBounds_toArray, List.set_cons_zero, List.set_cons_succ]
      refine wpAnyF_takesI (i := 2) (v := ?_) rfl (by kernel_rfl) (fun _ _ _ h => h) (by rfl) hSd ?_ ?_
      rotate_left 1
      · intro w hSw
        obtain ⟨s1, s2, s3, s4, s5, s6, s7, s8⟩ := hSw
        go_simp
        try with_reducible rfl
      try simp only [Act.put, List.setIfInBounds_toArray, List.set_cons_zero, List.set_cons_succ]
      refine wpAnyF_takesI (i := 3) (v := ?_) rfl (by kernel_rfl) (fun _ _ _ h => h) (by rfl) hSd ?_ ?_
      rotate_left 1
      · intro w hSw
        obtain ⟨s1, s2, s3, s4, s5, s6, s7, s8⟩ := hSw
        go_simp
        try with_reducible rfl
      try simp only [Act.put, List.setIfInBounds_toArray, List.set_cons_zero, List.set_cons_succ]
      refine wpAnyF_takesI (i := 4) (v := ?_) rfl (by kernel_rfl) (fun _ _ _ h => h) (by rfl) hSd ?_ ?_
      rotate_left 1
      · intro w hSw
        obtain ⟨s1, s2, s3, s4, s5, s6, s7, s8⟩ := hSw
        go_simp
        try with_reducible rfl
      try simp only [Act.put, List.setIfInBounds_toArray, List.set_cons_zero, List.set_cons_succ]
      refine wpAnyF_takesI (i := 5) (v := ?_) rfl (by kernel_rfl) (fun _ _ _ h => h) (by rfl) hSd ?_ ?_
      rotate_left 1
      · intro w hSw
        obtain ⟨s1, s2, s3, s4, s5, s6, s7, s8⟩ := hSw
        go_simp
        try with_reducible rfl
      try simp only [Act.put, List.setIfInBounds_toArray, List.set_cons_zero, List.set_cons_succ]
      have bA : Below w6.heap.size w6 (wq.alloc (.cells #[.int .i64 xs, .bool xc, .int .i64 xk, .int .i64 xd, .int .i64 xn, .int .i64 xm, .int .i64 xp] 26)) := bd.trans ((Below.refl _ _).alloc bd.size _)
      refine wpAnyF_next (i := 6) rfl (by kernel_rfl) (fun K hK => ?_)
      go_simp
      refine hK.out _ _ (.inr (HC.out _ bA)) ?_
      clear hK K
      try simp only [Act.put, List.setIfInBounds_toArray, List.set_cons_zero, List.set_cons_succ]
      refine wpAnyF_next (i := 7) rfl (by kernel_rfl) (fun K hK => ?_)
      have hcA : (wq.alloc (.cells #[.int .i64 xs, .bool xc, .int .i64 xk, .int .i64 xd, .int .i64 xn, .int .i64 xm, .int .i64 xp] 26)).ownsRow base 26 7 (.slice a V.length cap) V.length (cellsL encS V) := by rw [← HSV.out]; exact own_after HM6.out.own bA
      refine step_append_lies _ (by rfl) _ _ _ (by rfl) base 26 v0 _ 7 56 Try.underlying35 hv hv0 hv1 hv2 rfl (by omega) _ V.length _ (by rfl) hcA ⟨wq.heap.size, 0, none⟩ 1 1 [.int .i64 xs, .bool xc, .int .i64 xk, .int .i64 xd, .int .i64 xn, .int .i64 xm, .int .i64 xp] (by rfl) (by rfl) (World.news_of_block (cs := #[.int .i64 xs, .bool xc, .int .i64 xk, .int .i64 xd, .int .i64 xn, .int .i64 xm, .int .i64 xp]) (t := 26) (fr := (0, 0)) (heap_alloc_new wq _)) (by simp [Value.oneCell']) (by omega) (by unfold maxLen; omega) (by omega) (by have := bA.size; omega) _ rfl ?_
      intro g c3 wG hown hgrow hat hgt
      have hgq : World.grownBy (wq.alloc (.cells #[.int .i64 xs, .bool xc, .int .i64 xk, .int .i64 xd, .int .i64 xn, .int .i64 xm, .int .i64 xp] 26)) wG sv.ownBlock := by rw [HSV.out]; exact hgrow
      have kG : Blk wG p #[sv, .map (some bm)] 83 := (HM6.out.blk.after bA).grown hgq (HM6.out.blk.own_ne HM6.out.own (by decide))
      have kVG := (KV6.out.after bA).grown hgq (HOB.out w.heap.size (by omega))
      have KRG := Lib.hid ((KR6.out.after bA).grown hgq (HOB.out (w.heap.size + 1) (by omega)))
      have KOG := Lib.hid ((KO6.out.after bA).grown hgq (HOB.out w2.heap.size (by omega)))
      have m0 : wG.cell? ⟨p, 0, none⟩ = some (.slice a V.length cap) := by rw [← HSV.out]; exact kG.cell 0 rfl
      have mf := kG.free 0
      have hSG : wG.cell? ⟨p, 0, none⟩ = some (.slice a V.length cap) ∧ wG.cell? ⟨w.heap.size, 0, none⟩ = some (.int .i64 xs) ∧ wG.cell? ⟨w.heap.size, 1, none⟩ = some (.bool xc) ∧ wG.cell? ⟨w.heap.size, 2, none⟩ = some (.int .i64 xk) ∧ wG.cell? ⟨w.heap.size, 3, none⟩ = some (.int .i64 xd) ∧ wG.cell? ⟨w.heap.size, 4, none⟩ = some (.int .i64 xn) ∧ wG.cell? ⟨w.heap.size, 5, none⟩ = some (.int .i64 xm) ∧ wG.cell? ⟨w.heap.size, 6, none⟩ = some (.int .i64 xp) := ⟨m0, kVG.cell 0 rfl, kVG.cell 1 rfl, kVG.cell 2 rfl, kVG.cell 3 rfl, kVG.cell 4 rfl, kVG.cell 5 rfl, kVG.cell 6 rfl⟩
      have HST := Lib.hid (HM6.out.put bA hgq hown)
      have hgf : ∀ x, (Value.slice (some ⟨g, 0, none⟩) (V.length + 1) c3).ownBlock = some x → sv.ownBlock = some x ∨ w2.heap.size < x := fun x e => by
        simp only [Value.ownBlock, Option.some.injEq] at e
        subst e
        rcases hat with h | h
        · exact Or.inl (by rw [HSV.out]; exact h)
        · have := bA.size
          exact Or.inr (by omega)
      have HGF := Lib.hid hgf
      refine hK.out _ _ (.inr hSG) ?_
      clear hK K hgf hown hat hgt kVG kG
      try simp only [Act.put, List.setIfInBounds_toArray, List.set_cons_zero, List.set_cons_succ]
      refine wpAnyF_next (i := 8) rfl (by kernel_rfl) (fun K hK => ?_)
      go_simp
      refine hK.out _ _ (.inr hSG) ?_
      clear hK K
      try simp only [Act.put, List.setIfInBounds_toArray, List.set_cons_zero, List.set_cons_succ]
      refine wpAnyF_next (i := 9) rfl (by kernel_rfl) (fun K hK => ?_)
      go_simp
      refine hK.out _ _ (.inr hSG) ?_
      clear hK K
      try simp only [Act.put, List.setIfInBounds_toArray, List.set_cons_zero, List.set_cons_succ]
      refine wpAnyF_next (i := 10) rfl (by kernel_rfl) (fun K hK => ?_)
      go_simp
      refine hK.out _ _ (.inl rfl) ?_
      clear hK K
      try simp only [Act.put, List.setIfInBounds_toArray, List.set_cons_zero, List.set_cons_succ]
      refine wpAnyF_done (by kernel_rfl) ?_ _
      have hst9 := HST.out
      have KR9 := KRG.out.far 0 (.slice (some ⟨g, 0, none⟩) (V.length + 1) c3) (show w.heap.size + 1 ≠ p by omega)
      have KO9 := KOG.out.far 0 (.slice (some ⟨g, 0, none⟩) (V.length + 1) c3) (show w2.heap.size ≠ p by omega)
      obtain ⟨w9, hw9⟩ : ∃ W, wG.setCell ⟨p, 0, none⟩ (.slice (some ⟨g, 0, none⟩) (V.length + 1) c3) = W := ⟨_, rfl⟩
      rw [hw9] at hst9 KR9 KO9 ⊢
      clear hw9 HST KRG KOG hSG m0 mf HC bd bA hSd HM6 KV6 KR6 KO6 hcA hgq
      have HST := Lib.hid hst9
      have KR9 := Lib.hid KR9
      have o0 : w9.cell? ⟨w2.heap.size, 0, none⟩ = some (.int .i64 os) := KO9.cell 0 rfl
      have o1 : w9.cell? ⟨w2.heap.size, 1, none⟩ = some (.bool oc) := KO9.cell 1 rfl
      have o2 : w9.cell? ⟨w2.heap.size, 2, none⟩ = some (.int .i64 ok) := KO9.cell 2 rfl
      have o3 : w9.cell? ⟨w2.heap.size, 3, none⟩ = some (.int .i64 od) := KO9.cell 3 rfl
      have o4 : w9.cell? ⟨w2.heap.size, 4, none⟩ = some (.int .i64 on) := KO9.cell 4 rfl
      have o5 : w9.cell? ⟨w2.heap.size, 5, none⟩ = some (.int .i64 om) := KO9.cell 5 rfl
      have o6 : w9.cell? ⟨w2.heap.size, 6, none⟩ = some (.int .i64 op) := KO9.cell 6 rfl
      have b0 : w9.cell? ⟨(w.heap.size + 1), 0, none⟩ = some (.int .i64 0) := (KR9.out).cell 0 rfl
      have b1 : w9.cell? ⟨(w.heap.size + 1), 1, none⟩ = some (.bool false) := (KR9.out).cell 1 rfl
      have b2 : w9.cell? ⟨(w.heap.size + 1), 2, none⟩ = some (.int .i64 0) := (KR9.out).cell 2 rfl
      have b3 : w9.cell? ⟨(w.heap.size + 1), 3, none⟩ = some (.int .i64 0) := (KR9.out).cell 3 rfl
      have b4 : w9.cell? ⟨(w.heap.size + 1), 4, none⟩ = some (.int .i64 0) := (KR9.out).cell 4 rfl
      have b5 : w9.cell? ⟨(w.heap.size + 1), 5, none⟩ = some (.int .i64 0) := (KR9.out).cell 5 rfl
      have b6 : w9.cell? ⟨(w.heap.size + 1), 6, none⟩ = some (.int .i64 0) := (KR9.out).cell 6 rfl
      have f0 := (KR9.out).free 0
      have f1 := (KR9.out).free 1
      have f2 := (KR9.out).free 2
      have f3 := (KR9.out).free 3
      have f4 := (KR9.out).free 4
      have f5 := (KR9.out).free 5
      have f6 := (KR9.out).free 6
      clear hst9 KO9
      go_wp2_with fail
      clear o0 o1 o2 o3 o4 o5 o6 b0 b1 b2 b3 b4 b5 b6 f0 f1 f2 f3 f4 f5 f6
      obtain ⟨w10, hw10⟩ : ∃ W, put7 w9 (w.heap.size + 1) ⟨os, oc, ok, od, on, om, op⟩ = W := ⟨_, rfl⟩
      have hK : Blk w10 (w.heap.size + 1) #[.int .i64 os, .bool oc, .int .i64 ok, .int .i64 od, .int .i64 on, .int .i64 om, .int .i64 op] 26 := by rw [← hw10]; exact set7 KR9.out _ _ _ _ _ _ _
      have ht : Turn [w.heap.size + 1] w9 w10 := by rw [← hw10]; exact put7_turn _ _ _
      have hb : Below w.heap.size w9 w10 := ht.below (by have := HST.out.2.size; have := HB5.out.size; omega) (by simp)
      simp only [put7] at hw10
      rw [hw10]
      clear hw10
      have e0 : w10.cell? ⟨w.heap.size + 1, 0, none⟩ = some (.int .i64 os) := hK.cell 0 rfl
      have e1 : w10.cell? ⟨w.heap.size + 1, 1, none⟩ = some (.bool oc) := hK.cell 1 rfl
      have e2 : w10.cell? ⟨w.heap.size + 1, 2, none⟩ = some (.int .i64 ok) := hK.cell 2 rfl
      have e3 : w10.cell? ⟨w.heap.size + 1, 3, none⟩ = some (.int .i64 od) := hK.cell 3 rfl
      have e4 : w10.cell? ⟨w.heap.size + 1, 4, none⟩ = some (.int .i64 on) := hK.cell 4 rfl
      have e5 : w10.cell? ⟨w.heap.size + 1, 5, none⟩ = some (.int .i64 om) := hK.cell 5 rfl
      have e6 : w10.cell? ⟨w.heap.size + 1, 6, none⟩ = some (.int .i64 op) := hK.cell 6 rfl
      refine bodyPost_ret (v := .tuple #[.agg #[.int .i64 os, .bool oc, .int .i64 ok, .int .i64 od, .int .i64 on, .int .i64 om, .int .i64 op], .bool false, .int .i64 0]) (by simp [results, Try.results55, go_sem, e0, e1, e2, e3, e4, e5, e6]) rfl ?_
      refine put_fin (v := ⟨xs, xc, xk, xd, xn, xm, xp⟩) HE.out HO.out HOD.out HIS.out (HST.out.1.turn ht (by simp; omega) (by simp; omega) (fun x e hx => ?_) (fun b hb cur hc => ?_)) ((((Turn.of_below HB5.out).trans (HT6.out.mono fun b hb => ?_)).trans (HST.out.2.mono fun b hb => ?_)).then_below hb) (fun x e => (HGF.out x e).imp id (by omega))
      · obtain rfl := List.mem_singleton.1 hx
        rcases HGF.out _ e with h | h
        · exact HOB.out _ (by omega) h
        · omega
      · obtain rfl := List.mem_singleton.1 hb
        have h2 : w9.heap[w.heap.size + 1]? = _ := KR9.out
        rw [h2] at hc
        simp at hc
      · obtain rfl := List.mem_singleton.1 hb
        simp [StAt.bs]
      · rcases List.mem_cons.1 hb with rfl | hb
        · simp [StAt.bs]
        · exact List.mem_cons_of_mem _ (List.mem_cons_of_mem _ hb)

end Go.Proofs.Ytkloijkfaooodaa
