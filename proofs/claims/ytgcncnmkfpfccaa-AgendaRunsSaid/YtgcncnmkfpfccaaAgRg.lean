/- The statement AgendaRuns: the walk. -/
import Derived.Test.YtgcncnmkfpfccaaAgRf
namespace Go.Proofs.Ytgcncnmkfpfccaa
open Go.RowKit Go.Sort Go.Shelf
set_option linter.unusedVariables false
set_option linter.unusedSimpArgs false

def RunRel (w wr : World) (B bm R j : Nat) : Prop := ∃ S N, HalfAt wr w.heap.size B bm R S N S N (fun _ => False) ∧ S.length ≤ j ∧ 0 ≤ N ∧ N ≤ (j : Int) ∧ Below w.heap.size w wr
set_option maxHeartbeats 16000000 in
set_option maxRecDepth 100000 in
theorem runs_law (a : Option Addr) (cap : Nat) (l : List Oq) (hl : l.length ≤ 9223372036854775807) (w : World) (h : OpsAt w a l) :
    Calls Try.prog 3 #[.slice a l.length cap] w (TrueEnd w) := by
  have HR := Lib.hid h
  clear h
  go_enter Try.func3, Try.ntmps3
  go_wp2_with fail
  with_reducible refine (new_x w).mono ?_
  rintro e w1 ⟨B, bm, rfl, hA1, hb1⟩
  have HA1 := Lib.hid hA1
  have HB1 := Lib.hid hb1
  clear hA1 hb1
  by_cases h60 : 60 < l.length
  · have h60' : decide (60 < l.length) = true := decide_eq_true h60
    have h61' : decide (60 < (l.length : Int)) = true := decide_eq_true (by omega)
    clear h60
    go_wp2_with fail
    with_reducible refine (awake_ok11 _).mono ?_
    rintro e w3 ⟨rfl, hb3⟩
    go_wp2_with fail
    go_ret
    exact ⟨rfl, HB1.out.trans (hb3.mono HB1.out.size)⟩
  have h61' : decide (60 < (l.length : Int)) = false := decide_eq_false (by omega)
  have h60' : l.length ≤ 60 := by omega
  clear h60
  go_wp2_with fail
  obtain ⟨w2, hw2⟩ : ∃ W, w1.alloc (.cells #[.slice none 0 0, .int .i64 0] 29) = W := ⟨_, rfl⟩
  have hb2 : Below w1.heap.size w1 w2 := by rw [← hw2]; exact (Below.refl _ _).alloc (Nat.le_refl _) _
  have kr : Blk w2 w1.heap.size #[.slice none 0 0, .int .i64 0] 29 := by rw [← hw2]; exact Blk.new _ _ _
  have z2 : w2.heap.size = w1.heap.size + 1 := by rw [← hw2]; simp
  have z1 := HB1.out.size
  have HRun0 : Hid (RunRel w w2 B bm w1.heap.size 0) := ⟨[], 0, ⟨none, 0, HA1.out.grow hb2 (fun b hb => .inr (by
    rcases hb with (rfl | ⟨x, hx, _⟩) | hf
    · omega
    · cases hx
    · exact hf.elim)), ⟨kr, SlAt.nil _, fun x hx => by cases hx⟩, z1, fun b hb => hb.elim⟩, by simp, by simp, by simp, HB1.out.trans (hb2.mono z1)⟩
  obtain ⟨R, hRe⟩ : ∃ R, w1.heap.size = R := ⟨_, rfl⟩
  rw [hRe] at HRun0
  have HRe := Lib.hid hRe
  have HW2 := Lib.hid hw2
  clear hb2 kr hw2 hRe z1 z2 HA1
  rw [HW2.out, HRe.out]
  clear HW2 HRe HB1
  go_loopw [5] (fun i wr => ∃ j : Nat, j ≤ l.length ∧ i = .int .i64 j ∧ Hid (RunRel w wr B bm R j)) (fun i _ => l.length - (intOf i).toNat)
  case atStart => exact ⟨0, by omega, rfl, HRun0.out⟩
  case round =>
    obtain ⟨j, hj, rfl, HRel⟩ := hrel
    by_cases hlt : j < l.length
    · have hx := List.getElem?_eq_getElem hlt
      obtain ⟨x, hy⟩ : ∃ x, l[j] = x := ⟨_, rfl⟩
      have hxo : x.Ok := by rw [← hy]; exact HR.out.2 _ (List.getElem_mem _)
      rw [hy] at hx
      have HX := Lib.hid hxo
      obtain ⟨b, o, rfl, _⟩ := HR.out.1 (by omega)
      obtain ⟨xa, xd, xn⟩ := x
      have HO : Hid (∀ X, Below w.heap.size w X → X.cell? ⟨b, o + j * 3, none⟩ = some (.int .i64 xa) ∧ X.cell? ⟨b, o + j * 3 + 1, none⟩ = some (.int .i64 xd) ∧ X.cell? ⟨b, o + j * 3 + 2, none⟩ = some (.int .i64 xn)) := fun X hX => by
        have hRr : RecsAt X (some ⟨b, o, none⟩) 3 encO l := RowsAt.after HR.out.1 hX
        exact ⟨RecsAt.cell hRr rfl hlt hx (j := 0) rfl, RecsAt.cell hRr rfl hlt hx (j := 1) rfl, RecsAt.cell hRr rfl hlt hx (j := 2) rfl⟩
      obtain ⟨S, N, hH, hS, hN0, hN, hbr⟩ := HRel.out
      obtain ⟨t0, t1, t2⟩ := HO.out wr hbr
      clear hx hy hxo
      have i1 : (0 : Int) ≤ (j : Int) := by omega
      have i2 : (j : Int) < (l.length : Int) := by omega
      have hbz := hbr.size
      have HC := Lib.hid (hH.does xa xd xn HX.out.2.2 (by omega) (by omega) hbz)
      have HAg : Hid ((∀ z ∈ S, z.n < N) ∧ Nos S ∧ Rising It.ky S) := by
        obtain ⟨_, _, hA, _⟩ := hH
        exact ⟨fun z hz => (hA.no z hz).2, hA.nos, hA.ra⟩
      have HBr := Lib.hid hbr
      have hRl := hH.lt
      clear hH hbr HRel
      go_wp2_with fail
      with_reducible refine HC.out.mono ?_
      rintro e w3 ⟨rfl, hH3, hb3⟩
      unfold opR
      obtain ⟨⟨⟨vd, vn, vt⟩, ve⟩, hv⟩ : ∃ p, opV S N xa xd xn = p := ⟨_, rfl⟩
      rw [hv]
      dsimp only [encI]
      have hRl3 := hH3.lt
      obtain ⟨w4, hw4⟩ : ∃ W, w3.alloc (.cells #[.int .i64 vd, .int .i64 vn, .int .i64 vt] 31) = W := ⟨_, rfl⟩
      have hb4 : Below w3.heap.size w3 w4 := by rw [← hw4]; exact (Below.refl _ _).alloc (Nat.le_refl _) _
      have kx4 : Blk w4 w3.heap.size #[.int .i64 vd, .int .i64 vn, .int .i64 vt] 31 := by rw [← hw4]; exact Blk.new _ _ _
      have z4 : w4.heap.size = w3.heap.size + 1 := by rw [← hw4]; simp
      obtain ⟨w5, hw5⟩ : ∃ W, w4.alloc (.cells #[.int .i64 0, .int .i64 0, .int .i64 0] 37) = W := ⟨_, rfl⟩
      have hb5 : Below w4.heap.size w4 w5 := by rw [← hw5]; exact (Below.refl _ _).alloc (Nat.le_refl _) _
      have ky5 : Blk w5 w4.heap.size #[.int .i64 0, .int .i64 0, .int .i64 0] 37 := by rw [← hw5]; exact Blk.new _ _ _
      rw [z4] at ky5
      have z5 : w5.heap.size = w4.heap.size + 1 := by rw [← hw5]; simp
      have hb35 := hb4.trans (hb5.mono (by omega))
      have HH5 := Lib.hid (hH3.grow (Z := (· = w3.heap.size + 1)) hb35 (fun b e => .inr (by subst e; omega)))
      have HKX5 := Lib.hid (kx4.after hb5)
      have HKY5 := Lib.hid ky5
      have hb5' := HBr.out.trans (hb3.trans (hb35.mono (by have := hb3.size; omega)))
      have HB5 := Lib.hid hb5'
      obtain ⟨m0, m1, m2⟩ := HO.out w5 hb5'
      rw [← hw5, ← hw4] at m0 m1 m2
      have HW4 := Lib.hid hw4
      have HW5 := Lib.hid hw5
      have HV := Lib.hid hv
      have zb3 := hb3.size
      clear hw4 hw5 hb4 hb5 kx4 ky5 hb35 hb5' hH3 hb3 HC t0 t1 t2 hv HRun0
      have hS1 := opS_len S N xa xd xn
      have hN1 := opN_le N xa xd
      have hN1' : 0 ≤ opN N xa xd := by unfold opN; split <;> omega
      obtain ⟨S1, hSe⟩ : ∃ s, opS S N xa xd xn = s := ⟨_, rfl⟩
      obtain ⟨N1, hNe⟩ : ∃ s, opN N xa xd = s := ⟨_, rfl⟩
      rw [hSe] at hS1 HH5
      rw [hNe] at hN1 hN1' HH5
      have HSe := Lib.hid hSe
      have HNe := Lib.hid hNe
      clear hSe hNe
      by_cases h0 : xa = 0
      · subst h0
        have HPs : Hid (vd = 0 ∧ vt = 0) := by have := put_shape S N xd xn; rw [HV.out] at this; exact this
        obtain ⟨rfl, rfl⟩ := HPs.out
        have HP : Hid (∀ W, Below w5.heap.size w5 W → Calls Try.prog 12 #[.pointer (some ⟨R, 0, none⟩), .int .i64 xd, .int .i64 xn] W fun e w' => e = .returned (.tuple #[.int .i64 vn, .int .i64 ve]) ∧ HalfAt w' w.heap.size B bm R S1 N1 S1 N1 (· = w3.heap.size + 1) ∧ Turn [R] W w' ∧ Below w.heap.size W w') := fun W hW => by
          have h := put_half xd xn (by have := hW.size; omega) (HH5.out.after hW) (by omega) hN0 (by omega) HAg.out.1
          rw [HV.out, HSe.out, HNe.out] at h
          exact h
        go_wp2_with fail
        rw [HW4.out, HW5.out]
        have HSt : Hid (∀ W, Below w.heap.size w W → W.cell? ⟨b, o + j * 3 + 1, none⟩ = some (.int .i64 xd) ∧ W.cell? ⟨b, o + j * 3 + 2, none⟩ = some (.int .i64 xn)) := fun W hW => (HO.out W hW).2
        have hz5 := HB5.out.size
        go_region_held3 (fun W => W.cell? ⟨b, o + j * 3 + 1, none⟩ = some (.int .i64 xd) ∧ W.cell? ⟨b, o + j * 3 + 2, none⟩ = some (.int .i64 xn))
          (first | with_reducible exact HSt.out _ (HB5.out.trans (Below.refl _ _).drew) | with_reducible exact HSt.out _ hB6 | with_reducible exact HSt.out _ hB7 | go_keep)
          (first
            | (go_at_call 12; (with_reducible refine (HP.out w5.drew (Below.refl _ _).drew).mono ?_); rintro e w6 ⟨rfl, hH6, ht6, hb6⟩; have hB6 : Below w.heap.size w w6 := (HB5.out.trans (Below.refl _ _).drew).trans hb6; have kx6 := ht6.blk (HKX5.out.drew) (by rw [List.mem_singleton]; omega); have ky6 := ht6.blk (HKY5.out.drew) (by rw [List.mem_singleton]; omega); have y6 : w6.cell? ⟨w3.heap.size + 1, 1, none⟩ = some (.int .i64 0) := ky6.cell 1 rfl; have f6 := ky6.free 1; have hB7 : Below w.heap.size w (w6.setCell ⟨w3.heap.size + 1, 1, none⟩ (.int .i64 vn)) := hB6.setCell (p := ⟨w3.heap.size + 1, 1, none⟩) (show w.heap.size ≤ w3.heap.size + 1 by omega) _))
        obtain ⟨w7, hw7⟩ : ∃ W, w6.setCell ⟨w3.heap.size + 1, 1, none⟩ (.int .i64 vn) = W := ⟨_, rfl⟩
        have HKX7 : Hid (Blk w7 w3.heap.size #[.int .i64 0, .int .i64 vn, .int .i64 0] 31) := by rw [← hw7]; exact kx6.far 1 _ (by omega)
        have HKY7 : Hid (Blk w7 (w3.heap.size + 1) #[.int .i64 0, .int .i64 vn, .int .i64 0] 37) := by rw [← hw7]; exact ky6.set 1 _
        have HA7 : Hid (HalfAt w7 w.heap.size B bm R S1 N1 S1 N1 (· = w3.heap.size + 1)) := by rw [← hw7]; exact hH6.store rfl _
        rw [hw7] at hB7 ⊢
        have HB7 := Lib.hid hB7
        clear hw7 kx6 ky6 y6 f6 hH6 ht6 hb6 hB6 hB7 HP HSt HW4 HW5 m0 m1 m2 HPs
        go_wp2_with fail
        as_aux_lemma =>
          obtain ⟨a7, cap7, hA7, hR7, _⟩ := HA7.out
          have hle7 := hR7.sl.le
          have HAA := Lib.hid hA7
          have HRR := Lib.hid hR7
          have HSc : Hid (∀ W, Below w7.heap.size w7 W → W.cell? ⟨w3.heap.size, 0, none⟩ = some (.int .i64 0) ∧ W.cell? ⟨w3.heap.size, 1, none⟩ = some (.int .i64 vn) ∧ W.cell? ⟨w3.heap.size, 2, none⟩ = some (.int .i64 0) ∧ W.cell? ⟨w3.heap.size + 1, 0, none⟩ = some (.int .i64 0) ∧ W.cell? ⟨w3.heap.size + 1, 1, none⟩ = some (.int .i64 vn) ∧ W.cell? ⟨w3.heap.size + 1, 2, none⟩ = some (.int .i64 0) ∧ W.cell? ⟨R, 0, none⟩ = some (.slice a7 S1.length cap7)) := fun W hW => ⟨(HKX7.out.after hW).cell 0 rfl, (HKX7.out.after hW).cell 1 rfl, (HKX7.out.after hW).cell 2 rfl, (HKY7.out.after hW).cell 0 rfl, (HKY7.out.after hW).cell 1 rfl, (HKY7.out.after hW).cell 2 rfl, (HRR.out.after hW).blk.cell 0 rfl⟩
          have heq := fun w => item_neq 0 vn 0 0 vn 0 w
          rw [decide_eq_true rfl] at heq
          clear hA7 hR7
          go_region_held3 (fun W => W.cell? ⟨w3.heap.size, 0, none⟩ = some (.int .i64 0) ∧ W.cell? ⟨w3.heap.size, 1, none⟩ = some (.int .i64 vn) ∧ W.cell? ⟨w3.heap.size, 2, none⟩ = some (.int .i64 0) ∧ W.cell? ⟨w3.heap.size + 1, 0, none⟩ = some (.int .i64 0) ∧ W.cell? ⟨w3.heap.size + 1, 1, none⟩ = some (.int .i64 vn) ∧ W.cell? ⟨w3.heap.size + 1, 2, none⟩ = some (.int .i64 0) ∧ W.cell? ⟨R, 0, none⟩ = some (.slice a7 S1.length cap7))
            (first | with_reducible exact HSc.out _ (Below.refl _ _).drew | with_reducible exact HSc.out _ hB8 | with_reducible exact HSc.out _ hB9 | go_keep)
            (first
              | (go_at_call 16; (with_reducible refine (len_x (HAA.out.after (Below.refl _ _).drew)).mono ?_); rintro e w8 ⟨rfl, rfl⟩)
              | (go_at_call 18; (with_reducible refine (items_x (HAA.out.after (Below.refl _ _).drew) (by omega)).mono ?_); rintro e w8 ⟨a8, c8, rfl, hI8, hb8, hx8⟩; have hB8 : Below w7.heap.size w7 w8 := (Below.refl _ _).drew.trans hb8)
              | (go_at_call 17; (with_reducible refine (same_ok11 a8 a7 c8 cap7 S1 w8 hI8 ((HRR.out.after hB8).sl.recs) (by omega)).mono ?_); rintro e w9 ⟨rfl, hb9⟩; have hB9 : Below w7.heap.size w7 w9 := hB8.trans (hb9.mono hB8.size)))
          go_wp2_with fail
          with_reducible refine (next_x (HAA.out.after hB9)).mono ?_
          rintro e w10 ⟨rfl, hb10⟩
          have hB10 : Below w7.heap.size w7 w10 := hB9.trans (hb10.mono hB9.size)
          have HNx : Hid (∀ o n, RunRel w ((w10.alloc o).drewN n) B bm R (j + 1)) := fun o n => by
            have hbb : Below w7.heap.size w7 ((w10.alloc o).drewN n) := (hB10.alloc hB10.size _).trans (below_draws _ n)
            exact ⟨S1, N1, HA7.out.grow hbb (fun _ h => h.elim), by omega, hN1', by push_cast; omega, HB7.out.trans (hbb.mono HB7.out.size)⟩
          have HB10 := Lib.hid hB10
          clear hb10 hB10 hB9 hB8 hb8 hb9 hI8 hx8 heq HA7 HKX7 HKY7
          cases S1 with
          | nil =>
            show _
            rw [show nextV [] = .tuple #[.agg #[.int .i64 0, .int .i64 0, .int .i64 0], .bool false] from rfl]
            have cR : (w10.alloc (.cells #[.int .i64 0, .int .i64 0, .int .i64 0] 31)).cell? ⟨R, 0, none⟩ = some (.slice a7 0 cap7) := (((HRR.out.after HB10.out).blk).after ((Below.refl _ _).alloc (Nat.le_refl _) _)).cell 0 rfl
            go_wp2_with (go_quiet (fail))
            go_roundw
            case rel => exact ⟨j + 1, by omega, by go_num, HNx.out _ _⟩
            case measure => simp [intOf]; omega
          | cons z T =>
            obtain ⟨zd, zn, zt⟩ := z
            rw [show nextV (⟨zd, zn, zt⟩ :: T) = .tuple #[.agg #[.int .i64 zd, .int .i64 zn, .int .i64 zt], .bool true] from rfl]
            rcases HRR.out.sl.sh with ⟨_, hno, _⟩ | ⟨b7, o7, rfl, hbl7⟩
            · cases hno
            obtain ⟨w11, hw11⟩ : ∃ W, w10.alloc (.cells #[.int .i64 zd, .int .i64 zn, .int .i64 zt] 31) = W := ⟨_, rfl⟩
            have hb11 : Below w10.heap.size w10 w11 := by rw [← hw11]; exact (Below.refl _ _).alloc (Nat.le_refl _) _
            have kz : Blk w11 w10.heap.size #[.int .i64 zd, .int .i64 zn, .int .i64 zt] 31 := by rw [← hw11]; exact Blk.new _ _ _
            have hR11 := (HRR.out.after HB10.out).after hb11
            have cR : w11.cell? ⟨R, 0, none⟩ = some (.slice (some ⟨b7, o7, none⟩) (T.length + 1) cap7) := hR11.blk.cell 0 rfl
            have p0 : w11.cell? ⟨b7, o7, none⟩ = some (.int .i64 zd) := by
              have := RecsAt.cell hR11.sl.recs rfl (i := 0) (by simp) rfl (j := 0) (v := .int .i64 zd) rfl
              simpa using this
            have p1 : w11.cell? ⟨b7, o7 + 1, none⟩ = some (.int .i64 zn) := by
              have := RecsAt.cell hR11.sl.recs rfl (i := 0) (by simp) rfl (j := 1) (v := .int .i64 zn) rfl
              simpa using this
            have p2 : w11.cell? ⟨b7, o7 + 2, none⟩ = some (.int .i64 zt) := by
              have := RecsAt.cell hR11.sl.recs rfl (i := 0) (by simp) rfl (j := 2) (v := .int .i64 zt) rfl
              simpa using this
            have q0 : w11.cell? ⟨w10.heap.size, 0, none⟩ = some (.int .i64 zd) := kz.cell 0 rfl
            have q1 : w11.cell? ⟨w10.heap.size, 1, none⟩ = some (.int .i64 zn) := kz.cell 1 rfl
            have q2 : w11.cell? ⟨w10.heap.size, 2, none⟩ = some (.int .i64 zt) := kz.cell 2 rfl
            rw [← hw11] at cR p0 p1 p2 q0 q1 q2
            have heq := fun w => item_neq zd zn zt zd zn zt w
            rw [decide_eq_true rfl] at heq
            have gt : decide ((0 : Int) < ((T.length : Int) + 1)) = true := decide_eq_true (by omega)
            have gt' : (0 : Int) < (T.length : Int) + 1 := by omega
            clear hw11 hb11 kz hR11
            go_wp2_with (go_quiet (fail))
            go_roundw
            case rel => exact ⟨j + 1, by omega, by go_num, HNx.out _ _⟩
            case measure => simp [intOf]; omega
      have e0 : (xa == 0) = false := by rw [beq_eq_false_iff_ne]; exact h0
      by_cases h1 : xa = 1
      · subst h1
        have hC := take_half xd xn (by have := HB5.out.size; omega) HH5.out (by omega)
        rw [HSe.out, HNe.out] at hC
        have HCt := Lib.hid hC
        clear hC
        have hopv : opV S N 1 xd xn = (match takeO S xd with | none => (⟨0, 0, 0⟩, 16) | some x => (x, 0)) := rfl
        rw [HV.out] at hopv
        cases ht : takeO S xd with
        | none =>
          rw [ht] at hopv
          have HTk := Lib.hid ht
          simp only [Prod.mk.injEq, It.mk.injEq] at hopv
          obtain ⟨⟨rfl, rfl, rfl⟩, rfl⟩ := hopv
          clear ht
          go_wp2_with fail
          rw [HW4.out, HW5.out]
          with_reducible refine HCt.out.mono ?_
          rintro e w6 ⟨rfl, hH6, ht6, hb6⟩
          rw [HTk.out, show itV none = .tuple #[.agg #[.int .i64 0, .int .i64 0, .int .i64 0], .bool false] from rfl]
          clear HCt HTk
          obtain ⟨w7, hw7⟩ : ∃ W, ((w6.setCell ⟨w3.heap.size + 1, 0, none⟩ (.int .i64 0)).setCell ⟨w3.heap.size + 1, 1, none⟩ (.int .i64 0)).setCell ⟨w3.heap.size + 1, 2, none⟩ (.int .i64 0) = W := ⟨_, rfl⟩
          have hz5 := HB5.out.size
          have kx6 := ht6.blk HKX5.out (by rw [List.mem_singleton]; omega)
          have ky6 := ht6.blk HKY5.out (by rw [List.mem_singleton]; omega)
          obtain ⟨y0, y1, y2, f0, f1, f2⟩ := blk3 ky6
          have HKX7 : Hid (Blk w7 w3.heap.size #[.int .i64 0, .int .i64 0, .int .i64 0] 31) := by rw [← hw7]; exact far3 kx6 (by omega) _ _ _
          have HKY7 : Hid (Blk w7 (w3.heap.size + 1) #[.int .i64 0, .int .i64 0, .int .i64 0] 37) := by rw [← hw7]; exact fin3 ky6 _ _ _
          have HA7 : Hid (HalfAt w7 w.heap.size B bm R S1 N1 S1 N1 (· = w3.heap.size + 1)) := by rw [← hw7]; exact ((hH6.store rfl _).store rfl _).store rfl _
          have hB7 : Below w.heap.size w w7 := by
            rw [← hw7]
            exact (HB5.out.trans hb6).trans ((turn3 w6 (w3.heap.size + 1) _ _ _).below (by have := hb6.size; omega) (fun b hb => by rw [List.mem_singleton.1 hb]; omega))
          have HB7 := Lib.hid hB7
          have HW7 := Lib.hid hw7
          clear hw7 kx6 ky6 hH6 ht6 hb6 hB7 HW4 HW5 m0 m1 m2
          go_wp2_with fail
          rw [HW7.out]
          as_aux_lemma =>
            obtain ⟨a7, cap7, hA7, hR7, _⟩ := HA7.out
            have hle7 := hR7.sl.le
            have HAA := Lib.hid hA7
            have HRR := Lib.hid hR7
            have HSc : Hid (∀ W, Below w7.heap.size w7 W → W.cell? ⟨w3.heap.size, 0, none⟩ = some (.int .i64 0) ∧ W.cell? ⟨w3.heap.size, 1, none⟩ = some (.int .i64 0) ∧ W.cell? ⟨w3.heap.size, 2, none⟩ = some (.int .i64 0) ∧ W.cell? ⟨w3.heap.size + 1, 0, none⟩ = some (.int .i64 0) ∧ W.cell? ⟨w3.heap.size + 1, 1, none⟩ = some (.int .i64 0) ∧ W.cell? ⟨w3.heap.size + 1, 2, none⟩ = some (.int .i64 0) ∧ W.cell? ⟨R, 0, none⟩ = some (.slice a7 S1.length cap7)) := fun W hW => ⟨(HKX7.out.after hW).cell 0 rfl, (HKX7.out.after hW).cell 1 rfl, (HKX7.out.after hW).cell 2 rfl, (HKY7.out.after hW).cell 0 rfl, (HKY7.out.after hW).cell 1 rfl, (HKY7.out.after hW).cell 2 rfl, (HRR.out.after hW).blk.cell 0 rfl⟩
            have heq := fun w => item_neq 0 0 0 0 0 0 w
            rw [decide_eq_true rfl] at heq
            clear hA7 hR7
            go_region_held3 (fun W => W.cell? ⟨w3.heap.size, 0, none⟩ = some (.int .i64 0) ∧ W.cell? ⟨w3.heap.size, 1, none⟩ = some (.int .i64 0) ∧ W.cell? ⟨w3.heap.size, 2, none⟩ = some (.int .i64 0) ∧ W.cell? ⟨w3.heap.size + 1, 0, none⟩ = some (.int .i64 0) ∧ W.cell? ⟨w3.heap.size + 1, 1, none⟩ = some (.int .i64 0) ∧ W.cell? ⟨w3.heap.size + 1, 2, none⟩ = some (.int .i64 0) ∧ W.cell? ⟨R, 0, none⟩ = some (.slice a7 S1.length cap7))
              (first | with_reducible exact HSc.out _ (Below.refl _ _).drew | with_reducible exact HSc.out _ hB8 | with_reducible exact HSc.out _ hB9 | go_keep)
              (first
                | (go_at_call 16; (with_reducible refine (len_x (HAA.out.after (Below.refl _ _).drew)).mono ?_); rintro e w8 ⟨rfl, rfl⟩)
                | (go_at_call 18; (with_reducible refine (items_x (HAA.out.after (Below.refl _ _).drew) (by omega)).mono ?_); rintro e w8 ⟨a8, c8, rfl, hI8, hb8, hx8⟩; have hB8 : Below w7.heap.size w7 w8 := (Below.refl _ _).drew.trans hb8)
                | (go_at_call 17; (with_reducible refine (same_ok11 a8 a7 c8 cap7 S1 w8 hI8 ((HRR.out.after hB8).sl.recs) (by omega)).mono ?_); rintro e w9 ⟨rfl, hb9⟩; have hB9 : Below w7.heap.size w7 w9 := hB8.trans (hb9.mono hB8.size)))
            go_wp2_with fail
            with_reducible refine (next_x (HAA.out.after hB9)).mono ?_
            rintro e w10 ⟨rfl, hb10⟩
            have hB10 : Below w7.heap.size w7 w10 := hB9.trans (hb10.mono hB9.size)
            have HNx : Hid (∀ o n, RunRel w ((w10.alloc o).drewN n) B bm R (j + 1)) := fun o n => by
              have hbb : Below w7.heap.size w7 ((w10.alloc o).drewN n) := (hB10.alloc hB10.size _).trans (below_draws _ n)
              exact ⟨S1, N1, HA7.out.grow hbb (fun _ h => h.elim), by omega, hN1', by push_cast; omega, HB7.out.trans (hbb.mono HB7.out.size)⟩
            have HB10 := Lib.hid hB10
            clear hb10 hB10 hB9 hB8 hb8 hb9 hI8 hx8 heq HA7 HKX7 HKY7
            cases S1 with
            | nil =>
              show _
              rw [show nextV [] = .tuple #[.agg #[.int .i64 0, .int .i64 0, .int .i64 0], .bool false] from rfl]
              have cR : (w10.alloc (.cells #[.int .i64 0, .int .i64 0, .int .i64 0] 31)).cell? ⟨R, 0, none⟩ = some (.slice a7 0 cap7) := (((HRR.out.after HB10.out).blk).after ((Below.refl _ _).alloc (Nat.le_refl _) _)).cell 0 rfl
              go_wp2_with (go_quiet (fail))
              go_roundw
              case rel => exact ⟨j + 1, by omega, by go_num, HNx.out _ _⟩
              case measure => simp [intOf]; omega
            | cons z T =>
              obtain ⟨zd, zn, zt⟩ := z
              rw [show nextV (⟨zd, zn, zt⟩ :: T) = .tuple #[.agg #[.int .i64 zd, .int .i64 zn, .int .i64 zt], .bool true] from rfl]
              rcases HRR.out.sl.sh with ⟨_, hno, _⟩ | ⟨b7, o7, rfl, hbl7⟩
              · cases hno
              obtain ⟨w11, hw11⟩ : ∃ W, w10.alloc (.cells #[.int .i64 zd, .int .i64 zn, .int .i64 zt] 31) = W := ⟨_, rfl⟩
              have hb11 : Below w10.heap.size w10 w11 := by rw [← hw11]; exact (Below.refl _ _).alloc (Nat.le_refl _) _
              have kz : Blk w11 w10.heap.size #[.int .i64 zd, .int .i64 zn, .int .i64 zt] 31 := by rw [← hw11]; exact Blk.new _ _ _
              have hR11 := (HRR.out.after HB10.out).after hb11
              have cR : w11.cell? ⟨R, 0, none⟩ = some (.slice (some ⟨b7, o7, none⟩) (T.length + 1) cap7) := hR11.blk.cell 0 rfl
              have p0 : w11.cell? ⟨b7, o7, none⟩ = some (.int .i64 zd) := by
                have := RecsAt.cell hR11.sl.recs rfl (i := 0) (by simp) rfl (j := 0) (v := .int .i64 zd) rfl
                simpa using this
              have p1 : w11.cell? ⟨b7, o7 + 1, none⟩ = some (.int .i64 zn) := by
                have := RecsAt.cell hR11.sl.recs rfl (i := 0) (by simp) rfl (j := 1) (v := .int .i64 zn) rfl
                simpa using this
              have p2 : w11.cell? ⟨b7, o7 + 2, none⟩ = some (.int .i64 zt) := by
                have := RecsAt.cell hR11.sl.recs rfl (i := 0) (by simp) rfl (j := 2) (v := .int .i64 zt) rfl
                simpa using this
              have q0 : w11.cell? ⟨w10.heap.size, 0, none⟩ = some (.int .i64 zd) := kz.cell 0 rfl
              have q1 : w11.cell? ⟨w10.heap.size, 1, none⟩ = some (.int .i64 zn) := kz.cell 1 rfl
              have q2 : w11.cell? ⟨w10.heap.size, 2, none⟩ = some (.int .i64 zt) := kz.cell 2 rfl
              rw [← hw11] at cR p0 p1 p2 q0 q1 q2
              have heq := fun w => item_neq zd zn zt zd zn zt w
              rw [decide_eq_true rfl] at heq
              have gt : decide ((0 : Int) < ((T.length : Int) + 1)) = true := decide_eq_true (by omega)
              have gt' : (0 : Int) < (T.length : Int) + 1 := by omega
              clear hw11 hb11 kz hR11
              go_wp2_with (go_quiet (fail))
              go_roundw
              case rel => exact ⟨j + 1, by omega, by go_num, HNx.out _ _⟩
              case measure => simp [intOf]; omega
        | some x =>
          rw [ht] at hopv
          have HTk := Lib.hid ht
          obtain ⟨zd, zn, zt⟩ := x
          simp only [Prod.mk.injEq, It.mk.injEq] at hopv
          obtain ⟨⟨rfl, rfl, rfl⟩, rfl⟩ := hopv
          clear ht
          go_wp2_with fail
          rw [HW4.out, HW5.out]
          with_reducible refine HCt.out.mono ?_
          rintro e w6 ⟨rfl, hH6, ht6, hb6⟩
          rw [HTk.out, show itV (some ⟨vd, vn, vt⟩) = .tuple #[.agg #[.int .i64 vd, .int .i64 vn, .int .i64 vt], .bool true] from rfl]
          clear HCt HTk
          obtain ⟨w7, hw7⟩ : ∃ W, ((w6.setCell ⟨w3.heap.size + 1, 0, none⟩ (.int .i64 vd)).setCell ⟨w3.heap.size + 1, 1, none⟩ (.int .i64 vn)).setCell ⟨w3.heap.size + 1, 2, none⟩ (.int .i64 vt) = W := ⟨_, rfl⟩
          have hz5 := HB5.out.size
          have kx6 := ht6.blk HKX5.out (by rw [List.mem_singleton]; omega)
          have ky6 := ht6.blk HKY5.out (by rw [List.mem_singleton]; omega)
          obtain ⟨y0, y1, y2, f0, f1, f2⟩ := blk3 ky6
          have HKX7 : Hid (Blk w7 w3.heap.size #[.int .i64 vd, .int .i64 vn, .int .i64 vt] 31) := by rw [← hw7]; exact far3 kx6 (by omega) _ _ _
          have HKY7 : Hid (Blk w7 (w3.heap.size + 1) #[.int .i64 vd, .int .i64 vn, .int .i64 vt] 37) := by rw [← hw7]; exact fin3 ky6 _ _ _
          have HA7 : Hid (HalfAt w7 w.heap.size B bm R S1 N1 S1 N1 (· = w3.heap.size + 1)) := by rw [← hw7]; exact ((hH6.store rfl _).store rfl _).store rfl _
          have hB7 : Below w.heap.size w w7 := by
            rw [← hw7]
            exact (HB5.out.trans hb6).trans ((turn3 w6 (w3.heap.size + 1) _ _ _).below (by have := hb6.size; omega) (fun b hb => by rw [List.mem_singleton.1 hb]; omega))
          have HB7 := Lib.hid hB7
          have HW7 := Lib.hid hw7
          clear hw7 kx6 ky6 hH6 ht6 hb6 hB7 HW4 HW5 m0 m1 m2
          go_wp2_with fail
          rw [HW7.out]
          as_aux_lemma =>
            obtain ⟨a7, cap7, hA7, hR7, _⟩ := HA7.out
            have hle7 := hR7.sl.le
            have HAA := Lib.hid hA7
            have HRR := Lib.hid hR7
            have HSc : Hid (∀ W, Below w7.heap.size w7 W → W.cell? ⟨w3.heap.size, 0, none⟩ = some (.int .i64 vd) ∧ W.cell? ⟨w3.heap.size, 1, none⟩ = some (.int .i64 vn) ∧ W.cell? ⟨w3.heap.size, 2, none⟩ = some (.int .i64 vt) ∧ W.cell? ⟨w3.heap.size + 1, 0, none⟩ = some (.int .i64 vd) ∧ W.cell? ⟨w3.heap.size + 1, 1, none⟩ = some (.int .i64 vn) ∧ W.cell? ⟨w3.heap.size + 1, 2, none⟩ = some (.int .i64 vt) ∧ W.cell? ⟨R, 0, none⟩ = some (.slice a7 S1.length cap7)) := fun W hW => ⟨(HKX7.out.after hW).cell 0 rfl, (HKX7.out.after hW).cell 1 rfl, (HKX7.out.after hW).cell 2 rfl, (HKY7.out.after hW).cell 0 rfl, (HKY7.out.after hW).cell 1 rfl, (HKY7.out.after hW).cell 2 rfl, (HRR.out.after hW).blk.cell 0 rfl⟩
            have heq := fun w => item_neq vd vn vt vd vn vt w
            rw [decide_eq_true rfl] at heq
            clear hA7 hR7
            go_region_held3 (fun W => W.cell? ⟨w3.heap.size, 0, none⟩ = some (.int .i64 vd) ∧ W.cell? ⟨w3.heap.size, 1, none⟩ = some (.int .i64 vn) ∧ W.cell? ⟨w3.heap.size, 2, none⟩ = some (.int .i64 vt) ∧ W.cell? ⟨w3.heap.size + 1, 0, none⟩ = some (.int .i64 vd) ∧ W.cell? ⟨w3.heap.size + 1, 1, none⟩ = some (.int .i64 vn) ∧ W.cell? ⟨w3.heap.size + 1, 2, none⟩ = some (.int .i64 vt) ∧ W.cell? ⟨R, 0, none⟩ = some (.slice a7 S1.length cap7))
              (first | with_reducible exact HSc.out _ (Below.refl _ _).drew | with_reducible exact HSc.out _ hB8 | with_reducible exact HSc.out _ hB9 | go_keep)
              (first
                | (go_at_call 16; (with_reducible refine (len_x (HAA.out.after (Below.refl _ _).drew)).mono ?_); rintro e w8 ⟨rfl, rfl⟩)
                | (go_at_call 18; (with_reducible refine (items_x (HAA.out.after (Below.refl _ _).drew) (by omega)).mono ?_); rintro e w8 ⟨a8, c8, rfl, hI8, hb8, hx8⟩; have hB8 : Below w7.heap.size w7 w8 := (Below.refl _ _).drew.trans hb8)
                | (go_at_call 17; (with_reducible refine (same_ok11 a8 a7 c8 cap7 S1 w8 hI8 ((HRR.out.after hB8).sl.recs) (by omega)).mono ?_); rintro e w9 ⟨rfl, hb9⟩; have hB9 : Below w7.heap.size w7 w9 := hB8.trans (hb9.mono hB8.size)))
            go_wp2_with fail
            with_reducible refine (next_x (HAA.out.after hB9)).mono ?_
            rintro e w10 ⟨rfl, hb10⟩
            have hB10 : Below w7.heap.size w7 w10 := hB9.trans (hb10.mono hB9.size)
            have HNx : Hid (∀ o n, RunRel w ((w10.alloc o).drewN n) B bm R (j + 1)) := fun o n => by
              have hbb : Below w7.heap.size w7 ((w10.alloc o).drewN n) := (hB10.alloc hB10.size _).trans (below_draws _ n)
              exact ⟨S1, N1, HA7.out.grow hbb (fun _ h => h.elim), by omega, hN1', by push_cast; omega, HB7.out.trans (hbb.mono HB7.out.size)⟩
            have HB10 := Lib.hid hB10
            clear hb10 hB10 hB9 hB8 hb8 hb9 hI8 hx8 heq HA7 HKX7 HKY7
            cases S1 with
            | nil =>
              show _
              rw [show nextV [] = .tuple #[.agg #[.int .i64 0, .int .i64 0, .int .i64 0], .bool false] from rfl]
              have cR : (w10.alloc (.cells #[.int .i64 0, .int .i64 0, .int .i64 0] 31)).cell? ⟨R, 0, none⟩ = some (.slice a7 0 cap7) := (((HRR.out.after HB10.out).blk).after ((Below.refl _ _).alloc (Nat.le_refl _) _)).cell 0 rfl
              go_wp2_with (go_quiet (fail))
              go_roundw
              case rel => exact ⟨j + 1, by omega, by go_num, HNx.out _ _⟩
              case measure => simp [intOf]; omega
            | cons z T =>
              obtain ⟨zd, zn, zt⟩ := z
              rw [show nextV (⟨zd, zn, zt⟩ :: T) = .tuple #[.agg #[.int .i64 zd, .int .i64 zn, .int .i64 zt], .bool true] from rfl]
              rcases HRR.out.sl.sh with ⟨_, hno, _⟩ | ⟨b7, o7, rfl, hbl7⟩
              · cases hno
              obtain ⟨w11, hw11⟩ : ∃ W, w10.alloc (.cells #[.int .i64 zd, .int .i64 zn, .int .i64 zt] 31) = W := ⟨_, rfl⟩
              have hb11 : Below w10.heap.size w10 w11 := by rw [← hw11]; exact (Below.refl _ _).alloc (Nat.le_refl _) _
              have kz : Blk w11 w10.heap.size #[.int .i64 zd, .int .i64 zn, .int .i64 zt] 31 := by rw [← hw11]; exact Blk.new _ _ _
              have hR11 := (HRR.out.after HB10.out).after hb11
              have cR : w11.cell? ⟨R, 0, none⟩ = some (.slice (some ⟨b7, o7, none⟩) (T.length + 1) cap7) := hR11.blk.cell 0 rfl
              have p0 : w11.cell? ⟨b7, o7, none⟩ = some (.int .i64 zd) := by
                have := RecsAt.cell hR11.sl.recs rfl (i := 0) (by simp) rfl (j := 0) (v := .int .i64 zd) rfl
                simpa using this
              have p1 : w11.cell? ⟨b7, o7 + 1, none⟩ = some (.int .i64 zn) := by
                have := RecsAt.cell hR11.sl.recs rfl (i := 0) (by simp) rfl (j := 1) (v := .int .i64 zn) rfl
                simpa using this
              have p2 : w11.cell? ⟨b7, o7 + 2, none⟩ = some (.int .i64 zt) := by
                have := RecsAt.cell hR11.sl.recs rfl (i := 0) (by simp) rfl (j := 2) (v := .int .i64 zt) rfl
                simpa using this
              have q0 : w11.cell? ⟨w10.heap.size, 0, none⟩ = some (.int .i64 zd) := kz.cell 0 rfl
              have q1 : w11.cell? ⟨w10.heap.size, 1, none⟩ = some (.int .i64 zn) := kz.cell 1 rfl
              have q2 : w11.cell? ⟨w10.heap.size, 2, none⟩ = some (.int .i64 zt) := kz.cell 2 rfl
              rw [← hw11] at cR p0 p1 p2 q0 q1 q2
              have heq := fun w => item_neq zd zn zt zd zn zt w
              rw [decide_eq_true rfl] at heq
              have gt : decide ((0 : Int) < ((T.length : Int) + 1)) = true := decide_eq_true (by omega)
              have gt' : (0 : Int) < (T.length : Int) + 1 := by omega
              clear hw11 hb11 kz hR11
              go_wp2_with (go_quiet (fail))
              go_roundw
              case rel => exact ⟨j + 1, by omega, by go_num, HNx.out _ _⟩
              case measure => simp [intOf]; omega
      have e1 : (xa == 1) = false := by rw [beq_eq_false_iff_ne]; exact h1
      by_cases h2 : xa = 2
      · subst h2
        have hC := drop_half xd xn (by have := HB5.out.size; omega) HH5.out (by omega) HAg.out.2.1
        rw [HSe.out, HNe.out, HV.out] at hC
        unfold opR at hC
        dsimp only [encI] at hC
        have HCt := Lib.hid hC
        clear hC
        go_wp2_with fail
        rw [HW4.out, HW5.out]
        with_reducible refine HCt.out.mono ?_
        rintro e w6 ⟨rfl, hH6, ht6, hb6⟩
        clear HCt
        obtain ⟨w7, hw7⟩ : ∃ W, ((w6.setCell ⟨w3.heap.size + 1, 0, none⟩ (.int .i64 vd)).setCell ⟨w3.heap.size + 1, 1, none⟩ (.int .i64 vn)).setCell ⟨w3.heap.size + 1, 2, none⟩ (.int .i64 vt) = W := ⟨_, rfl⟩
        have hz5 := HB5.out.size
        have kx6 := ht6.blk HKX5.out (by rw [List.mem_singleton]; omega)
        have ky6 := ht6.blk HKY5.out (by rw [List.mem_singleton]; omega)
        obtain ⟨y0, y1, y2, f0, f1, f2⟩ := blk3 ky6
        have HKX7 : Hid (Blk w7 w3.heap.size #[.int .i64 vd, .int .i64 vn, .int .i64 vt] 31) := by rw [← hw7]; exact far3 kx6 (by omega) _ _ _
        have HKY7 : Hid (Blk w7 (w3.heap.size + 1) #[.int .i64 vd, .int .i64 vn, .int .i64 vt] 37) := by rw [← hw7]; exact fin3 ky6 _ _ _
        have HA7 : Hid (HalfAt w7 w.heap.size B bm R S1 N1 S1 N1 (· = w3.heap.size + 1)) := by rw [← hw7]; exact ((hH6.store rfl _).store rfl _).store rfl _
        have hB7 : Below w.heap.size w w7 := by
          rw [← hw7]
          exact (HB5.out.trans hb6).trans ((turn3 w6 (w3.heap.size + 1) _ _ _).below (by have := hb6.size; omega) (fun b hb => by rw [List.mem_singleton.1 hb]; omega))
        have HB7 := Lib.hid hB7
        have HW7 := Lib.hid hw7
        clear hw7 kx6 ky6 hH6 ht6 hb6 hB7 HW4 HW5 m0 m1 m2
        go_wp2_with fail
        rw [HW7.out]
        as_aux_lemma =>
          obtain ⟨a7, cap7, hA7, hR7, _⟩ := HA7.out
          have hle7 := hR7.sl.le
          have HAA := Lib.hid hA7
          have HRR := Lib.hid hR7
          have HSc : Hid (∀ W, Below w7.heap.size w7 W → W.cell? ⟨w3.heap.size, 0, none⟩ = some (.int .i64 vd) ∧ W.cell? ⟨w3.heap.size, 1, none⟩ = some (.int .i64 vn) ∧ W.cell? ⟨w3.heap.size, 2, none⟩ = some (.int .i64 vt) ∧ W.cell? ⟨w3.heap.size + 1, 0, none⟩ = some (.int .i64 vd) ∧ W.cell? ⟨w3.heap.size + 1, 1, none⟩ = some (.int .i64 vn) ∧ W.cell? ⟨w3.heap.size + 1, 2, none⟩ = some (.int .i64 vt) ∧ W.cell? ⟨R, 0, none⟩ = some (.slice a7 S1.length cap7)) := fun W hW => ⟨(HKX7.out.after hW).cell 0 rfl, (HKX7.out.after hW).cell 1 rfl, (HKX7.out.after hW).cell 2 rfl, (HKY7.out.after hW).cell 0 rfl, (HKY7.out.after hW).cell 1 rfl, (HKY7.out.after hW).cell 2 rfl, (HRR.out.after hW).blk.cell 0 rfl⟩
          have heq := fun w => item_neq vd vn vt vd vn vt w
          rw [decide_eq_true rfl] at heq
          clear hA7 hR7
          go_region_held3 (fun W => W.cell? ⟨w3.heap.size, 0, none⟩ = some (.int .i64 vd) ∧ W.cell? ⟨w3.heap.size, 1, none⟩ = some (.int .i64 vn) ∧ W.cell? ⟨w3.heap.size, 2, none⟩ = some (.int .i64 vt) ∧ W.cell? ⟨w3.heap.size + 1, 0, none⟩ = some (.int .i64 vd) ∧ W.cell? ⟨w3.heap.size + 1, 1, none⟩ = some (.int .i64 vn) ∧ W.cell? ⟨w3.heap.size + 1, 2, none⟩ = some (.int .i64 vt) ∧ W.cell? ⟨R, 0, none⟩ = some (.slice a7 S1.length cap7))
            (first | with_reducible exact HSc.out _ (Below.refl _ _).drew | with_reducible exact HSc.out _ hB8 | with_reducible exact HSc.out _ hB9 | go_keep)
            (first
              | (go_at_call 16; (with_reducible refine (len_x (HAA.out.after (Below.refl _ _).drew)).mono ?_); rintro e w8 ⟨rfl, rfl⟩)
              | (go_at_call 18; (with_reducible refine (items_x (HAA.out.after (Below.refl _ _).drew) (by omega)).mono ?_); rintro e w8 ⟨a8, c8, rfl, hI8, hb8, hx8⟩; have hB8 : Below w7.heap.size w7 w8 := (Below.refl _ _).drew.trans hb8)
              | (go_at_call 17; (with_reducible refine (same_ok11 a8 a7 c8 cap7 S1 w8 hI8 ((HRR.out.after hB8).sl.recs) (by omega)).mono ?_); rintro e w9 ⟨rfl, hb9⟩; have hB9 : Below w7.heap.size w7 w9 := hB8.trans (hb9.mono hB8.size)))
          go_wp2_with fail
          with_reducible refine (next_x (HAA.out.after hB9)).mono ?_
          rintro e w10 ⟨rfl, hb10⟩
          have hB10 : Below w7.heap.size w7 w10 := hB9.trans (hb10.mono hB9.size)
          have HNx : Hid (∀ o n, RunRel w ((w10.alloc o).drewN n) B bm R (j + 1)) := fun o n => by
            have hbb : Below w7.heap.size w7 ((w10.alloc o).drewN n) := (hB10.alloc hB10.size _).trans (below_draws _ n)
            exact ⟨S1, N1, HA7.out.grow hbb (fun _ h => h.elim), by omega, hN1', by push_cast; omega, HB7.out.trans (hbb.mono HB7.out.size)⟩
          have HB10 := Lib.hid hB10
          clear hb10 hB10 hB9 hB8 hb8 hb9 hI8 hx8 heq HA7 HKX7 HKY7
          cases S1 with
          | nil =>
            show _
            rw [show nextV [] = .tuple #[.agg #[.int .i64 0, .int .i64 0, .int .i64 0], .bool false] from rfl]
            have cR : (w10.alloc (.cells #[.int .i64 0, .int .i64 0, .int .i64 0] 31)).cell? ⟨R, 0, none⟩ = some (.slice a7 0 cap7) := (((HRR.out.after HB10.out).blk).after ((Below.refl _ _).alloc (Nat.le_refl _) _)).cell 0 rfl
            go_wp2_with (go_quiet (fail))
            go_roundw
            case rel => exact ⟨j + 1, by omega, by go_num, HNx.out _ _⟩
            case measure => simp [intOf]; omega
          | cons z T =>
            obtain ⟨zd, zn, zt⟩ := z
            rw [show nextV (⟨zd, zn, zt⟩ :: T) = .tuple #[.agg #[.int .i64 zd, .int .i64 zn, .int .i64 zt], .bool true] from rfl]
            rcases HRR.out.sl.sh with ⟨_, hno, _⟩ | ⟨b7, o7, rfl, hbl7⟩
            · cases hno
            obtain ⟨w11, hw11⟩ : ∃ W, w10.alloc (.cells #[.int .i64 zd, .int .i64 zn, .int .i64 zt] 31) = W := ⟨_, rfl⟩
            have hb11 : Below w10.heap.size w10 w11 := by rw [← hw11]; exact (Below.refl _ _).alloc (Nat.le_refl _) _
            have kz : Blk w11 w10.heap.size #[.int .i64 zd, .int .i64 zn, .int .i64 zt] 31 := by rw [← hw11]; exact Blk.new _ _ _
            have hR11 := (HRR.out.after HB10.out).after hb11
            have cR : w11.cell? ⟨R, 0, none⟩ = some (.slice (some ⟨b7, o7, none⟩) (T.length + 1) cap7) := hR11.blk.cell 0 rfl
            have p0 : w11.cell? ⟨b7, o7, none⟩ = some (.int .i64 zd) := by
              have := RecsAt.cell hR11.sl.recs rfl (i := 0) (by simp) rfl (j := 0) (v := .int .i64 zd) rfl
              simpa using this
            have p1 : w11.cell? ⟨b7, o7 + 1, none⟩ = some (.int .i64 zn) := by
              have := RecsAt.cell hR11.sl.recs rfl (i := 0) (by simp) rfl (j := 1) (v := .int .i64 zn) rfl
              simpa using this
            have p2 : w11.cell? ⟨b7, o7 + 2, none⟩ = some (.int .i64 zt) := by
              have := RecsAt.cell hR11.sl.recs rfl (i := 0) (by simp) rfl (j := 2) (v := .int .i64 zt) rfl
              simpa using this
            have q0 : w11.cell? ⟨w10.heap.size, 0, none⟩ = some (.int .i64 zd) := kz.cell 0 rfl
            have q1 : w11.cell? ⟨w10.heap.size, 1, none⟩ = some (.int .i64 zn) := kz.cell 1 rfl
            have q2 : w11.cell? ⟨w10.heap.size, 2, none⟩ = some (.int .i64 zt) := kz.cell 2 rfl
            rw [← hw11] at cR p0 p1 p2 q0 q1 q2
            have heq := fun w => item_neq zd zn zt zd zn zt w
            rw [decide_eq_true rfl] at heq
            have gt : decide ((0 : Int) < ((T.length : Int) + 1)) = true := decide_eq_true (by omega)
            have gt' : (0 : Int) < (T.length : Int) + 1 := by omega
            clear hw11 hb11 kz hR11
            go_wp2_with (go_quiet (fail))
            go_roundw
            case rel => exact ⟨j + 1, by omega, by go_num, HNx.out _ _⟩
            case measure => simp [intOf]; omega
      have e2 : (xa == 2) = false := by rw [beq_eq_false_iff_ne]; exact h2
      have hopv : opV S N xa xd xn = (⟨0, 0, 0⟩, moveE S xn xd) := by unfold opV; rw [if_neg h0, if_neg h1, if_neg h2]
      rw [HV.out] at hopv
      simp only [Prod.mk.injEq, It.mk.injEq] at hopv
      obtain ⟨⟨rfl, rfl, rfl⟩, hve⟩ := hopv
      have HP : Hid (∀ W, Below w5.heap.size w5 W → Calls Try.prog 15 #[.pointer (some ⟨R, 0, none⟩), .int .i64 xn, .int .i64 xd] W fun e w' => e = .returned (.int .i64 ve) ∧ HalfAt w' w.heap.size B bm R S1 N1 S1 N1 (· = w3.heap.size + 1) ∧ Turn [R] W w' ∧ Below w.heap.size W w') := fun W hW => by
        have h := move_half xa xd xn h0 h1 h2 (by have := hW.size; omega) (HH5.out.after hW) (by omega) HAg.out.2.1 HAg.out.2.2
        rw [HSe.out, HNe.out, ← hve] at h
        exact h
      clear hve
      go_wp2_with fail
      rw [HW4.out, HW5.out]
      have HSt : Hid (∀ W, Below w.heap.size w W → W.cell? ⟨b, o + j * 3 + 1, none⟩ = some (.int .i64 xd) ∧ W.cell? ⟨b, o + j * 3 + 2, none⟩ = some (.int .i64 xn)) := fun W hW => (HO.out W hW).2
      have hz5 := HB5.out.size
      go_region_held3 (fun W => W.cell? ⟨b, o + j * 3 + 1, none⟩ = some (.int .i64 xd) ∧ W.cell? ⟨b, o + j * 3 + 2, none⟩ = some (.int .i64 xn))
        (first | with_reducible exact HSt.out _ (HB5.out.trans (Below.refl _ _).drew) | with_reducible exact HSt.out _ hB7 | go_keep)
        (first
          | (go_at_call 15; (with_reducible refine (HP.out w5.drew (Below.refl _ _).drew).mono ?_); rintro e w7 ⟨rfl, hH7, ht7, hb7⟩; have hB7 : Below w.heap.size w w7 := (HB5.out.trans (Below.refl _ _).drew).trans hb7; have HKX7 := Lib.hid (ht7.blk (HKX5.out.drew) (by rw [List.mem_singleton]; omega)); have HKY7 := Lib.hid (ht7.blk (HKY5.out.drew) (by rw [List.mem_singleton]; omega)); have HA7 := Lib.hid hH7))
      have HB7 := Lib.hid hB7
      clear hH7 ht7 hb7 hB7 HP HSt HW4 HW5 m0 m1 m2
      go_wp2_with fail
      as_aux_lemma =>
        obtain ⟨a7, cap7, hA7, hR7, _⟩ := HA7.out
        have hle7 := hR7.sl.le
        have HAA := Lib.hid hA7
        have HRR := Lib.hid hR7
        have HSc : Hid (∀ W, Below w7.heap.size w7 W → W.cell? ⟨w3.heap.size, 0, none⟩ = some (.int .i64 0) ∧ W.cell? ⟨w3.heap.size, 1, none⟩ = some (.int .i64 0) ∧ W.cell? ⟨w3.heap.size, 2, none⟩ = some (.int .i64 0) ∧ W.cell? ⟨w3.heap.size + 1, 0, none⟩ = some (.int .i64 0) ∧ W.cell? ⟨w3.heap.size + 1, 1, none⟩ = some (.int .i64 0) ∧ W.cell? ⟨w3.heap.size + 1, 2, none⟩ = some (.int .i64 0) ∧ W.cell? ⟨R, 0, none⟩ = some (.slice a7 S1.length cap7)) := fun W hW => ⟨(HKX7.out.after hW).cell 0 rfl, (HKX7.out.after hW).cell 1 rfl, (HKX7.out.after hW).cell 2 rfl, (HKY7.out.after hW).cell 0 rfl, (HKY7.out.after hW).cell 1 rfl, (HKY7.out.after hW).cell 2 rfl, (HRR.out.after hW).blk.cell 0 rfl⟩
        have heq := fun w => item_neq 0 0 0 0 0 0 w
        rw [decide_eq_true rfl] at heq
        clear hA7 hR7
        go_region_held3 (fun W => W.cell? ⟨w3.heap.size, 0, none⟩ = some (.int .i64 0) ∧ W.cell? ⟨w3.heap.size, 1, none⟩ = some (.int .i64 0) ∧ W.cell? ⟨w3.heap.size, 2, none⟩ = some (.int .i64 0) ∧ W.cell? ⟨w3.heap.size + 1, 0, none⟩ = some (.int .i64 0) ∧ W.cell? ⟨w3.heap.size + 1, 1, none⟩ = some (.int .i64 0) ∧ W.cell? ⟨w3.heap.size + 1, 2, none⟩ = some (.int .i64 0) ∧ W.cell? ⟨R, 0, none⟩ = some (.slice a7 S1.length cap7))
          (first | with_reducible exact HSc.out _ (Below.refl _ _).drew | with_reducible exact HSc.out _ hB8 | with_reducible exact HSc.out _ hB9 | go_keep)
          (first
            | (go_at_call 16; (with_reducible refine (len_x (HAA.out.after (Below.refl _ _).drew)).mono ?_); rintro e w8 ⟨rfl, rfl⟩)
            | (go_at_call 18; (with_reducible refine (items_x (HAA.out.after (Below.refl _ _).drew) (by omega)).mono ?_); rintro e w8 ⟨a8, c8, rfl, hI8, hb8, hx8⟩; have hB8 : Below w7.heap.size w7 w8 := (Below.refl _ _).drew.trans hb8)
            | (go_at_call 17; (with_reducible refine (same_ok11 a8 a7 c8 cap7 S1 w8 hI8 ((HRR.out.after hB8).sl.recs) (by omega)).mono ?_); rintro e w9 ⟨rfl, hb9⟩; have hB9 : Below w7.heap.size w7 w9 := hB8.trans (hb9.mono hB8.size)))
        go_wp2_with fail
        with_reducible refine (next_x (HAA.out.after hB9)).mono ?_
        rintro e w10 ⟨rfl, hb10⟩
        have hB10 : Below w7.heap.size w7 w10 := hB9.trans (hb10.mono hB9.size)
        have HNx : Hid (∀ o n, RunRel w ((w10.alloc o).drewN n) B bm R (j + 1)) := fun o n => by
          have hbb : Below w7.heap.size w7 ((w10.alloc o).drewN n) := (hB10.alloc hB10.size _).trans (below_draws _ n)
          exact ⟨S1, N1, HA7.out.grow hbb (fun _ h => h.elim), by omega, hN1', by push_cast; omega, HB7.out.trans (hbb.mono HB7.out.size)⟩
        have HB10 := Lib.hid hB10
        clear hb10 hB10 hB9 hB8 hb8 hb9 hI8 hx8 heq HA7 HKX7 HKY7
        cases S1 with
        | nil =>
          show _
          rw [show nextV [] = .tuple #[.agg #[.int .i64 0, .int .i64 0, .int .i64 0], .bool false] from rfl]
          have cR : (w10.alloc (.cells #[.int .i64 0, .int .i64 0, .int .i64 0] 31)).cell? ⟨R, 0, none⟩ = some (.slice a7 0 cap7) := (((HRR.out.after HB10.out).blk).after ((Below.refl _ _).alloc (Nat.le_refl _) _)).cell 0 rfl
          go_wp2_with (go_quiet (fail))
          go_roundw
          case rel => exact ⟨j + 1, by omega, by go_num, HNx.out _ _⟩
          case measure => simp [intOf]; omega
        | cons z T =>
          obtain ⟨zd, zn, zt⟩ := z
          rw [show nextV (⟨zd, zn, zt⟩ :: T) = .tuple #[.agg #[.int .i64 zd, .int .i64 zn, .int .i64 zt], .bool true] from rfl]
          rcases HRR.out.sl.sh with ⟨_, hno, _⟩ | ⟨b7, o7, rfl, hbl7⟩
          · cases hno
          obtain ⟨w11, hw11⟩ : ∃ W, w10.alloc (.cells #[.int .i64 zd, .int .i64 zn, .int .i64 zt] 31) = W := ⟨_, rfl⟩
          have hb11 : Below w10.heap.size w10 w11 := by rw [← hw11]; exact (Below.refl _ _).alloc (Nat.le_refl _) _
          have kz : Blk w11 w10.heap.size #[.int .i64 zd, .int .i64 zn, .int .i64 zt] 31 := by rw [← hw11]; exact Blk.new _ _ _
          have hR11 := (HRR.out.after HB10.out).after hb11
          have cR : w11.cell? ⟨R, 0, none⟩ = some (.slice (some ⟨b7, o7, none⟩) (T.length + 1) cap7) := hR11.blk.cell 0 rfl
          have p0 : w11.cell? ⟨b7, o7, none⟩ = some (.int .i64 zd) := by
            have := RecsAt.cell hR11.sl.recs rfl (i := 0) (by simp) rfl (j := 0) (v := .int .i64 zd) rfl
            simpa using this
          have p1 : w11.cell? ⟨b7, o7 + 1, none⟩ = some (.int .i64 zn) := by
            have := RecsAt.cell hR11.sl.recs rfl (i := 0) (by simp) rfl (j := 1) (v := .int .i64 zn) rfl
            simpa using this
          have p2 : w11.cell? ⟨b7, o7 + 2, none⟩ = some (.int .i64 zt) := by
            have := RecsAt.cell hR11.sl.recs rfl (i := 0) (by simp) rfl (j := 2) (v := .int .i64 zt) rfl
            simpa using this
          have q0 : w11.cell? ⟨w10.heap.size, 0, none⟩ = some (.int .i64 zd) := kz.cell 0 rfl
          have q1 : w11.cell? ⟨w10.heap.size, 1, none⟩ = some (.int .i64 zn) := kz.cell 1 rfl
          have q2 : w11.cell? ⟨w10.heap.size, 2, none⟩ = some (.int .i64 zt) := kz.cell 2 rfl
          rw [← hw11] at cR p0 p1 p2 q0 q1 q2
          have heq := fun w => item_neq zd zn zt zd zn zt w
          rw [decide_eq_true rfl] at heq
          have gt : decide ((0 : Int) < ((T.length : Int) + 1)) = true := decide_eq_true (by omega)
          have gt' : (0 : Int) < (T.length : Int) + 1 := by omega
          clear hw11 hb11 kz hR11
          go_wp2_with (go_quiet (fail))
          go_roundw
          case rel => exact ⟨j + 1, by omega, by go_num, HNx.out _ _⟩
          case measure => simp [intOf]; omega
    · obtain rfl : j = l.length := by omega
      obtain ⟨_, _, _, _, _, _, hbr⟩ := HRel.out
      have HB := Lib.hid hbr
      clear HRel hbr
      go_wp2_with fail
      with_reducible refine (awake_ok11 _).mono ?_
      rintro e w9 ⟨rfl, hb9⟩
      go_wp2_with fail
      go_ret
      exact ⟨rfl, HB.out.trans (hb9.mono HB.out.size)⟩

end Go.Proofs.Ytgcncnmkfpfccaa
