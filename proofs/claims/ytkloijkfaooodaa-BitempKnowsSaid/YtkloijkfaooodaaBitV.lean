/- The law's same. -/
import Derived.Test.YtkloijkfaooodaaBitU
namespace Go.Proofs.Ytkloijkfaooodaa
open Go.RowKit Go.Shelf
set_option linter.unusedVariables false
set_option linter.unusedSimpArgs false
attribute [local go_sem ↓] Go.wp_at_zero Go.wp_at_succ

def SameVEnd (w : World) (e : Ending) (w' : World) : Prop := e = .returned (.bool true) ∧ Below w.heap.size w w'
set_option maxHeartbeats 8000000 in
set_option maxRecDepth 100000 in
theorem same_ok12 (base base' p bm : Nat) (sv : Value) (rp : Nat) (rv : Value) (V : List Vs) (w : World) (hs : StAt w base p bm sv V) (hr : RfAt w base' rp rv V) (hl : V.length ≤ 200) :
    Calls Try.prog 18 #[.pointer (some ⟨p, 0, none⟩), .pointer (some ⟨rp, 0, none⟩)] w (SameVEnd w) := by
  have HS0 := Lib.hid hs
  have HR0 := Lib.hid hr
  clear hs hr
  go_enter Try.func18, Try.ntmps18
  go_wp2_with fail
  with_reducible refine (ball_ok base p bm sv V w HS0.out (by omega)).mono ?_
  rintro e w1 ⟨Bs, rfl, hq, hb1, _⟩
  have HQ := Lib.hid hq
  have HB1 := Lib.hid hb1
  clear hq hb1
  go_wp2_with fail
  with_reducible refine (list_ok Bs V w1 HQ.out hl).mono ?_
  rintro e w2 ⟨a, cap, rfl, hrec, hb2⟩
  have hb12 := HB1.out.trans (hb2.mono HB1.out.size)
  have HB2 := Lib.hid hb12
  have HS := Lib.hid (HS0.out.after hb12)
  have HR := Lib.hid (HR0.out.after hb12)
  have HRec := Lib.hid hrec
  obtain ⟨ra, rc, rfl, _, _, _, _, hRR⟩ := owned_recs (enc := encR) (size := 7) (fun _ => rfl) HR.out.own rfl
  have HRR := Lib.hid hRR
  have c0 : w2.cell? ⟨rp, 0, none⟩ = some (.slice ra V.length rc) := HR.out.blk.cell 0 rfl
  obtain ⟨S, hS⟩ : ∃ S, seqV V = S := ⟨_, rfl⟩
  have K1 : Hid (∀ n, Calls Try.prog 15 #[.pointer (some ⟨p, 0, none⟩)] (w2.drewN n) fun e w' => e = .returned (.int .i64 V.length) ∧ w' = w2.drewN n) := fun n => blen_ok base p bm sv V (w2.drewN n) (HS.out.after (below_draws _ n))
  have K2 : Hid (∀ n, Calls Try.prog 31 #[.pointer (some ⟨p, 0, none⟩)] (w2.drewN n) fun e w' => e = .returned (.int .i64 S) ∧ w' = w2.drewN n) := fun n => by
    have := bseq_ok base p bm sv V (w2.drewN n) (HS.out.after (below_draws _ n)) (by omega)
    rw [hS] at this
    exact this
  have K3 : Hid (∀ n, Calls Try.prog 41 #[.pointer (some ⟨rp, 0, none⟩)] (w2.drewN n) fun e w' => e = .returned (.int .i64 S) ∧ ∃ m, w' = (w2.drewN n).drewN m) := fun n => by
    have := rseq_ok base' rp _ V (w2.drewN n) (HR.out.after (below_draws _ n)) (by omega)
    rw [hS] at this
    exact this
  clear hb2 hb12 hrec hRR hS HB1
  go_wp2_with (go_quiet (first | with_reducible exact Calls.quiet_of_same (K1.out _) | with_reducible exact Calls.quiet_of_same (K2.out _) | with_reducible exact Calls.quiet_of (K3.out _)))
  have hbq : Below w2.heap.size w2 (w2.drewN nq) := below_draws _ _
  obtain ⟨w3, hw3⟩ : ∃ W, w2.drewN nq = W := ⟨_, rfl⟩
  rw [hw3] at hbq ⊢
  have HR3 := Lib.hid (HR.out.after hbq)
  have HRR3 : Hid (RecsAt w3 ra 7 encR V) := HRR.out.after hbq
  have HRec3 : Hid (RecsAt w3 a 7 encS V) := HRec.out.after hbq
  have HB3 := Lib.hid (HB2.out.trans (hbq.mono HB2.out.size))
  clear hw3 hbq c0 K1 K2 K3 HRR HRec HR HB2
  go_wp2_with fail
  go_loopw [7] (fun i wr => ∃ j : Nat, j ≤ V.length ∧ i = .int .i64 j ∧ Hid (Below w3.heap.size w3 wr)) (fun i _ => V.length - (intOf i).toNat)
  case atStart => exact ⟨0, by omega, rfl, Below.refl _ _⟩
  case round =>
    obtain ⟨j, hj, rfl, HBq⟩ := hrel
    by_cases hlt : j < V.length
    · have hx := List.getElem?_eq_getElem hlt
      obtain ⟨x, hx'⟩ : ∃ x, V[j] = x := ⟨_, rfl⟩
      rw [hx'] at hx
      have hR1 := HRec3.out
      have hR2 := HRR3.out
      obtain ⟨b, o, rfl, _⟩ := hR1 (by omega)
      obtain ⟨b', o', rfl, _⟩ := hR2 (by omega)
      obtain ⟨xs, xc, xk, xd, xn, xm, xp⟩ := x
      have HSS : Hid (∀ W, Below w3.heap.size w3 W → W.cell? ⟨rp, 0, none⟩ = some (.slice (some ⟨b', o', none⟩) V.length rc) ∧ (W.cell? ⟨b, o + j * 7, none⟩ = some (.int .i64 xs) ∧ W.cell? ⟨b, o + j * 7 + 1, none⟩ = some (.bool xc) ∧ W.cell? ⟨b, o + j * 7 + 2, none⟩ = some (.int .i64 xk) ∧ W.cell? ⟨b, o + j * 7 + 3, none⟩ = some (.int .i64 xd) ∧ W.cell? ⟨b, o + j * 7 + 4, none⟩ = some (.int .i64 xn) ∧ W.cell? ⟨b, o + j * 7 + 5, none⟩ = some (.int .i64 xm) ∧ W.cell? ⟨b, o + j * 7 + 6, none⟩ = some (.int .i64 xp)) ∧ W.cell? ⟨b', o' + j * 7, none⟩ = some (.int .i64 xs) ∧ W.cell? ⟨b', o' + j * 7 + 1, none⟩ = some (.int .i64 (kindV xc)) ∧ W.cell? ⟨b', o' + j * 7 + 2, none⟩ = some (.int .i64 xk) ∧ W.cell? ⟨b', o' + j * 7 + 3, none⟩ = some (.int .i64 xd) ∧ W.cell? ⟨b', o' + j * 7 + 4, none⟩ = some (.int .i64 xn) ∧ W.cell? ⟨b', o' + j * 7 + 5, none⟩ = some (.int .i64 xm) ∧ W.cell? ⟨b', o' + j * 7 + 6, none⟩ = some (.int .i64 xp)) := fun W hW => by
        have h1 := HR3.out.blk.after hW
        have h2 : RecsAt W (some ⟨b, o, none⟩) 7 encS V := RowsAt.after hR1 hW
        have h3 : RecsAt W (some ⟨b', o', none⟩) 7 encR V := RowsAt.after hR2 hW
        exact ⟨h1.cell 0 rfl, ⟨RecsAt.cell h2 rfl hlt hx (j := 0) rfl, RecsAt.cell h2 rfl hlt hx (j := 1) rfl, RecsAt.cell h2 rfl hlt hx (j := 2) rfl, RecsAt.cell h2 rfl hlt hx (j := 3) rfl, RecsAt.cell h2 rfl hlt hx (j := 4) rfl, RecsAt.cell h2 rfl hlt hx (j := 5) rfl, RecsAt.cell h2 rfl hlt hx (j := 6) rfl⟩, RecsAt.cell h3 rfl hlt hx (j := 0) rfl, RecsAt.cell h3 rfl hlt hx (j := 1) rfl, RecsAt.cell h3 rfl hlt hx (j := 2) rfl, RecsAt.cell h3 rfl hlt hx (j := 3) rfl, RecsAt.cell h3 rfl hlt hx (j := 4) rfl, RecsAt.cell h3 rfl hlt hx (j := 5) rfl, RecsAt.cell h3 rfl hlt hx (j := 6) rfl⟩
      have HPl : Hid (∀ W, Calls Try.prog 29 #[.agg #[.int .i64 xs, .bool xc, .int .i64 xk, .int .i64 xd, .int .i64 xn, .int .i64 xm, .int .i64 xp]] W fun e w' => e = .returned (.agg #[.int .i64 xs, .int .i64 (kindV xc), .int .i64 xk, .int .i64 xd, .int .i64 xn, .int .i64 xm, .int .i64 xp]) ∧ Below W.heap.size W w') := fun W => plain_ok12 ⟨xs, xc, xk, xd, xn, xm, xp⟩ W
      have hne := fun w => arr_neq xs (kindV xc) xk xd xn xm xp xs (kindV xc) xk xd xn xm xp w
      rw [decide_eq_true rfl] at hne
      have i1 : (0 : Int) ≤ (j : Int) := by omega
      have i2 : (j : Int) < (V.length : Int) := by omega
      have bd : Below w3.heap.size w3 wr.drew := HBq.out.trans (((Below.refl _ _).drew).mono HBq.out.size)
      clear hx hx' hR1 hR2
      go_wp2_with fail
      go_region_held3 (fun W => W.cell? ⟨rp, 0, none⟩ = some (.slice (some ⟨b', o', none⟩) V.length rc) ∧ (W.cell? ⟨b, o + j * 7, none⟩ = some (.int .i64 xs) ∧ W.cell? ⟨b, o + j * 7 + 1, none⟩ = some (.bool xc) ∧ W.cell? ⟨b, o + j * 7 + 2, none⟩ = some (.int .i64 xk) ∧ W.cell? ⟨b, o + j * 7 + 3, none⟩ = some (.int .i64 xd) ∧ W.cell? ⟨b, o + j * 7 + 4, none⟩ = some (.int .i64 xn) ∧ W.cell? ⟨b, o + j * 7 + 5, none⟩ = some (.int .i64 xm) ∧ W.cell? ⟨b, o + j * 7 + 6, none⟩ = some (.int .i64 xp)) ∧ W.cell? ⟨b', o' + j * 7, none⟩ = some (.int .i64 xs) ∧ W.cell? ⟨b', o' + j * 7 + 1, none⟩ = some (.int .i64 (kindV xc)) ∧ W.cell? ⟨b', o' + j * 7 + 2, none⟩ = some (.int .i64 xk) ∧ W.cell? ⟨b', o' + j * 7 + 3, none⟩ = some (.int .i64 xd) ∧ W.cell? ⟨b', o' + j * 7 + 4, none⟩ = some (.int .i64 xn) ∧ W.cell? ⟨b', o' + j * 7 + 5, none⟩ = some (.int .i64 xm) ∧ W.cell? ⟨b', o' + j * 7 + 6, none⟩ = some (.int .i64 xp))
        (first | with_reducible exact HSS.out _ bd | with_reducible exact HSS.out _ bf)
        ((go_at_call 29; (with_reducible refine (HPl.out _).mono ?_); rintro e wf ⟨rfl, hbf⟩; have bf := bd.trans (hbf.mono bd.size)))
      have HBf := Lib.hid bf
      clear bf hbf bd
      go_wp2_with fail
      go_roundw
      case rel => exact ⟨j + 1, by omega, by go_num, HBf⟩
      case measure => simp [intOf]; omega
    · go_wp2_with fail
      go_ret
      exact ⟨rfl, HB3.out.trans (HBq.out.mono HB3.out.size)⟩

end Go.Proofs.Ytkloijkfaooodaa
