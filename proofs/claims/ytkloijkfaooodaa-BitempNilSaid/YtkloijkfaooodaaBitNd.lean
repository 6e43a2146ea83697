/- The statement BitempNil: the walk. -/
import Derived.Test.YtkloijkfaooodaaBitP
import Derived.Test.YtkloijkfaooodaaBitV
import Derived.Test.YtkloijkfaooodaaBitW
import Derived.Test.YtkloijkfaooodaaBitBu
import Derived.Test.YtkloijkfaooodaaBitNc
namespace Go.Proofs.Ytkloijkfaooodaa
open Go.RowKit Go.Shelf
set_option linter.unusedVariables false
set_option linter.unusedSimpArgs false

theorem callV_mem {V : List Vs} {v u : Vs} (h : u ∈ callV V v) : u ∈ V ∨ u.s = v.s := by
  unfold callV at h
  split at h
  · unfold putV at h
    split at h
    · rcases List.mem_append.1 h with h | h
      · exact .inl h
      · rw [List.mem_singleton.1 h]; exact .inr (norm_s v)
    · exact .inl h
  · exact .inl h
theorem runV_i64 (l : List Vs) : ∀ V : List Vs, (∀ v ∈ V, I64 v.s) → (∀ v ∈ l, I64 v.s) → ∀ v ∈ runV V l, I64 v.s := by
  induction l with
  | nil => exact fun V h _ => h
  | cons x l ih =>
    intro V h hl
    refine ih (callV V x) (fun v hv => ?_) (fun v hv => hl v (List.mem_cons_of_mem _ hv))
    rcases callV_mem hv with h1 | h1
    · exact h v h1
    · rw [h1]; exact hl x (by simp)
/-- What lies behind the last one is not found ahead of it. -/
theorem lat_before {V : List Vs} (hg : GoodV V) (h64 : ∀ v ∈ V, I64 v.s) {q : PK} {S : Int} (hS : IntKind.i64.wrap (seqV V + 1) = S) {y : Vs} (h : latP V q S = some y) : y.s < S := by
  obtain ⟨h1, _, h3⟩ := latP_some h
  have h2 := seqV_le hg.le h1
  have h4 := hg.pos y h1
  obtain ⟨z, hz, hzs⟩ := seqV_mem (List.ne_nil_of_mem h1)
  have h5 := h64 z hz
  rw [← hzs] at h5
  unfold I64 at h5
  unfold IntKind.wrap at hS
  simp only [IntKind.signed, IntKind.bits, Bool.true_and, decide_eq_true_eq] at hS
  split at hS <;> omega

theorem latV_none : latV none = .tuple #[.agg #[.int .i64 0, .bool false, .int .i64 0, .int .i64 0, .int .i64 0, .int .i64 0, .int .i64 0], .bool false] := rfl
theorem latV_some (os : Int) (oc : Bool) (ok od on om op : Int) : latV (some ⟨os, oc, ok, od, on, om, op⟩) = .tuple #[.agg #[.int .i64 os, .bool oc, .int .i64 ok, .int .i64 od, .int .i64 on, .int .i64 om, .int .i64 op], .bool true] := rfl
set_option maxHeartbeats 8000000 in
set_option maxRecDepth 100000 in
theorem nil_law (a : Option Addr) (cap : Nat) (l : List Vs) (hl : l.length ≤ 2513169434880) (v : Vs) (hv : v.Ok) (w : World) (h : VersAt w a l) :
    Calls Try.prog 9 #[.slice a l.length cap, .agg (encS v).toArray] w (Tr12 w) := by
  have HR := Lib.hid h
  have HGood : Hid (GoodV (runV [] l)) := runV_good GoodV.nil l
  have HI64 : Hid (∀ v ∈ runV [] l, I64 v.s) := runV_i64 l [] (fun v h => by cases h) (fun v hv => (h.2 v hv).s)
  have HVO := Lib.hid hv
  clear h hv
  obtain ⟨ys, yc, yk, yd, yn, ym, yp⟩ := v
  dsimp only [encS]
  obtain ⟨w0, hw0⟩ : ∃ W, w.alloc (.cells #[.int .i64 ys, .bool yc, .int .i64 yk, .int .i64 yd, .int .i64 yn, .int .i64 ym, .int .i64 yp] 31) = W := ⟨_, rfl⟩
  have hb0 : Below w.heap.size w w0 := by rw [← hw0]; exact (Below.refl _ _).alloc (Nat.le_refl _) _
  have KV0 : Hid (Blk w0 w.heap.size #[.int .i64 ys, .bool yc, .int .i64 yk, .int .i64 yd, .int .i64 yn, .int .i64 ym, .int .i64 yp] 31) := by rw [← hw0]; exact Blk.new _ _ _
  have z0 := hb0.size
  have HB0 := Lib.hid hb0
  have HW0 := Lib.hid hw0
  have y0 : w0.cell? ⟨w.heap.size, 0, none⟩ = some (.int .i64 ys) := (KV0.out).cell 0 rfl
  have y1 : w0.cell? ⟨w.heap.size, 1, none⟩ = some (.bool yc) := (KV0.out).cell 1 rfl
  have y2 : w0.cell? ⟨w.heap.size, 2, none⟩ = some (.int .i64 yk) := (KV0.out).cell 2 rfl
  have y3 : w0.cell? ⟨w.heap.size, 3, none⟩ = some (.int .i64 yd) := (KV0.out).cell 3 rfl
  have y4 : w0.cell? ⟨w.heap.size, 4, none⟩ = some (.int .i64 yn) := (KV0.out).cell 4 rfl
  have y5 : w0.cell? ⟨w.heap.size, 5, none⟩ = some (.int .i64 ym) := (KV0.out).cell 5 rfl
  have y6 : w0.cell? ⟨w.heap.size, 6, none⟩ = some (.int .i64 yp) := (KV0.out).cell 6 rfl
  rw [← hw0] at y0 y1 y2 y3 y4 y5 y6
  have HCN : Hid (∀ W, Calls Try.prog 12 #[.pointer none, .agg #[.int .i64 ys, .bool yc, .int .i64 yk, .int .i64 yd, .int .i64 yn, .int .i64 ym, .int .i64 yp]] W (NilC W)) := fun W => calls_nil ⟨ys, yc, yk, yd, yn, ym, yp⟩ W
  clear hw0 hb0
  go_enter Try.func9, Try.ntmps9
  go_wp2_with fail
  rw [HW0.out]
  clear y0 y1 y2 y3 y4 y5 y6
  with_reducible refine (HCN.out _).mono ?_
  rintro e w1 ⟨rfl, hb1⟩
  have KV1 := Lib.hid (KV0.out.after hb1)
  have HB1 := Lib.hid (HB0.out.trans (hb1.mono HB0.out.size))
  obtain ⟨w2, hw2⟩ : ∃ W, w1.alloc (.cells #[.int .i64 0, .bool false, .int .i64 0, .int .i64 0, .int .i64 0, .int .i64 0, .int .i64 0] 26) = W := ⟨_, rfl⟩
  have hb2 : Below w1.heap.size w1 w2 := by rw [← hw2]; exact (Below.refl _ _).alloc (Nat.le_refl _) _
  have KA2 : Hid (Blk w2 w1.heap.size #[.int .i64 0, .bool false, .int .i64 0, .int .i64 0, .int .i64 0, .int .i64 0, .int .i64 0] 26) := by rw [← hw2]; exact Blk.new _ _ _
  have KV2 := Lib.hid (KV1.out.after hb2)
  have HB2 := Lib.hid (HB1.out.trans (hb2.mono HB1.out.size))
  have HW2 := Lib.hid hw2
  have z12 := hb2.size
  have y0 : w2.cell? ⟨w.heap.size, 0, none⟩ = some (.int .i64 ys) := (KV2.out).cell 0 rfl
  have y1 : w2.cell? ⟨w.heap.size, 1, none⟩ = some (.bool yc) := (KV2.out).cell 1 rfl
  have y2 : w2.cell? ⟨w.heap.size, 2, none⟩ = some (.int .i64 yk) := (KV2.out).cell 2 rfl
  have y3 : w2.cell? ⟨w.heap.size, 3, none⟩ = some (.int .i64 yd) := (KV2.out).cell 3 rfl
  have y4 : w2.cell? ⟨w.heap.size, 4, none⟩ = some (.int .i64 yn) := (KV2.out).cell 4 rfl
  have y5 : w2.cell? ⟨w.heap.size, 5, none⟩ = some (.int .i64 ym) := (KV2.out).cell 5 rfl
  have y6 : w2.cell? ⟨w.heap.size, 6, none⟩ = some (.int .i64 yp) := (KV2.out).cell 6 rfl
  rw [← hw2] at y0 y1 y2 y3 y4 y5 y6
  clear hw2 hb2 hb1
  go_wp2_with fail
  rw [HW2.out]
  clear y0 y1 y2 y3 y4 y5 y6
  with_reducible refine (lat_nil yc yk yd 9 w2).mono ?_
  rintro e w3 ⟨rfl, hb3⟩
  rw [latV_none]
  have KV3 := Lib.hid (KV2.out.after hb3)
  have KA3 := Lib.hid (KA2.out.after hb3)
  have HB3 := Lib.hid (HB2.out.trans (hb3.mono HB2.out.size))
  obtain ⟨w4, hw4⟩ : ∃ W, w3.alloc (.cells #[.int .i64 0, .bool false, .int .i64 0, .int .i64 0, .int .i64 0, .int .i64 0, .int .i64 0] 26) = W := ⟨_, rfl⟩
  have hb4 : Below w3.heap.size w3 w4 := by rw [← hw4]; exact (Below.refl _ _).alloc (Nat.le_refl _) _
  have KC4 : Hid (Blk w4 w3.heap.size #[.int .i64 0, .bool false, .int .i64 0, .int .i64 0, .int .i64 0, .int .i64 0, .int .i64 0] 26) := by rw [← hw4]; exact Blk.new _ _ _
  have KV4 := Lib.hid (KV3.out.after hb4)
  have KA4 := Lib.hid (KA3.out.after hb4)
  have HB4 := Lib.hid (HB3.out.trans (hb4.mono HB3.out.size))
  have HW4 := Lib.hid hw4
  have y0 : w4.cell? ⟨w.heap.size, 0, none⟩ = some (.int .i64 ys) := (KV4.out).cell 0 rfl
  have y1 : w4.cell? ⟨w.heap.size, 1, none⟩ = some (.bool yc) := (KV4.out).cell 1 rfl
  have y2 : w4.cell? ⟨w.heap.size, 2, none⟩ = some (.int .i64 yk) := (KV4.out).cell 2 rfl
  have y3 : w4.cell? ⟨w.heap.size, 3, none⟩ = some (.int .i64 yd) := (KV4.out).cell 3 rfl
  have y4 : w4.cell? ⟨w.heap.size, 4, none⟩ = some (.int .i64 yn) := (KV4.out).cell 4 rfl
  have y5 : w4.cell? ⟨w.heap.size, 5, none⟩ = some (.int .i64 ym) := (KV4.out).cell 5 rfl
  have y6 : w4.cell? ⟨w.heap.size, 6, none⟩ = some (.int .i64 yp) := (KV4.out).cell 6 rfl
  rw [← hw4] at y0 y1 y2 y3 y4 y5 y6
  clear hw4 hb4 hb3
  go_wp2_with fail
  rw [HW4.out]
  clear y0 y1 y2 y3 y4 y5 y6
  with_reducible refine (bhist_nil yc yk yd w4).mono ?_
  rintro e w5 ⟨B5, rfl, hq5, hb5, _⟩
  have HQ5 := Lib.hid hq5
  have KV5 := Lib.hid (KV4.out.after hb5)
  have KA5 := Lib.hid (KA4.out.after hb5)
  have KC5 := Lib.hid (KC4.out.after hb5)
  have HB5 := Lib.hid (HB4.out.trans (hb5.mono HB4.out.size))
  clear hq5 hb5
  go_wp2_with fail
  with_reducible refine (list_ok B5 [] w5 HQ5.out (by simp)).mono ?_
  rintro e w6 ⟨a6, c6, rfl, _, hb6⟩
  have KV6 := Lib.hid (KV5.out.after hb6)
  have KA6 := Lib.hid (KA5.out.after hb6)
  have KC6 := Lib.hid (KC5.out.after hb6)
  have HB6 := Lib.hid (HB5.out.trans (hb6.mono HB5.out.size))
  clear hb6
  rw [List.length_nil]
  have y0 : w6.cell? ⟨w.heap.size, 0, none⟩ = some (.int .i64 ys) := (KV6.out).cell 0 rfl
  have y1 : w6.cell? ⟨w.heap.size, 1, none⟩ = some (.bool yc) := (KV6.out).cell 1 rfl
  have y2 : w6.cell? ⟨w.heap.size, 2, none⟩ = some (.int .i64 yk) := (KV6.out).cell 2 rfl
  have y3 : w6.cell? ⟨w.heap.size, 3, none⟩ = some (.int .i64 yd) := (KV6.out).cell 3 rfl
  have y4 : w6.cell? ⟨w.heap.size, 4, none⟩ = some (.int .i64 yn) := (KV6.out).cell 4 rfl
  have y5 : w6.cell? ⟨w.heap.size, 5, none⟩ = some (.int .i64 ym) := (KV6.out).cell 5 rfl
  have y6 : w6.cell? ⟨w.heap.size, 6, none⟩ = some (.int .i64 yp) := (KV6.out).cell 6 rfl
  go_wp2_with fail
  clear y0 y1 y2 y3 y4 y5 y6
  with_reducible refine (days_nil yc yk 0 9 9 w6).mono ?_
  rintro e w7 ⟨B7, rfl, hq7, hb7, _⟩
  have HQ7 := Lib.hid hq7
  have KV7 := Lib.hid (KV6.out.after hb7)
  have KA7 := Lib.hid (KA6.out.after hb7)
  have KC7 := Lib.hid (KC6.out.after hb7)
  have HB7 := Lib.hid (HB6.out.trans (hb7.mono HB6.out.size))
  clear hq7 hb7
  go_wp2_with fail
  with_reducible refine (list_ok B7 [] w7 HQ7.out (by simp)).mono ?_
  rintro e w8 ⟨a8, c8, rfl, _, hb8⟩
  have KV8 := Lib.hid (KV7.out.after hb8)
  have KA8 := Lib.hid (KA7.out.after hb8)
  have KC8 := Lib.hid (KC7.out.after hb8)
  have HB8 := Lib.hid (HB7.out.trans (hb8.mono HB7.out.size))
  clear hb8
  rw [List.length_nil]
  go_wp2_with fail
  with_reducible refine (ball_nil w8).mono ?_
  rintro e w9 ⟨B9, rfl, hq9, hb9, _⟩
  have HQ9 := Lib.hid hq9
  have KV9 := Lib.hid (KV8.out.after hb9)
  have KA9 := Lib.hid (KA8.out.after hb9)
  have KC9 := Lib.hid (KC8.out.after hb9)
  have HB9 := Lib.hid (HB8.out.trans (hb9.mono HB8.out.size))
  clear hq9 hb9
  go_wp2_with fail
  with_reducible refine (list_ok B9 [] w9 HQ9.out (by simp)).mono ?_
  rintro e w10 ⟨a10, c10, rfl, _, hb10⟩
  have KV10 := Lib.hid (KV9.out.after hb10)
  have KA10 := Lib.hid (KA9.out.after hb10)
  have KC10 := Lib.hid (KC9.out.after hb10)
  have HB10 := Lib.hid (HB9.out.trans (hb10.mono HB9.out.size))
  clear hb10
  rw [List.length_nil]
  have hne := fun w => ver_neq 0 false 0 0 0 0 0 0 false 0 0 0 0 0 w
  have a0 : w10.cell? ⟨w1.heap.size, 0, none⟩ = some (.int .i64 0) := (KA10.out).cell 0 rfl
  have a1 : w10.cell? ⟨w1.heap.size, 1, none⟩ = some (.bool false) := (KA10.out).cell 1 rfl
  have a2 : w10.cell? ⟨w1.heap.size, 2, none⟩ = some (.int .i64 0) := (KA10.out).cell 2 rfl
  have a3 : w10.cell? ⟨w1.heap.size, 3, none⟩ = some (.int .i64 0) := (KA10.out).cell 3 rfl
  have a4 : w10.cell? ⟨w1.heap.size, 4, none⟩ = some (.int .i64 0) := (KA10.out).cell 4 rfl
  have a5 : w10.cell? ⟨w1.heap.size, 5, none⟩ = some (.int .i64 0) := (KA10.out).cell 5 rfl
  have a6 : w10.cell? ⟨w1.heap.size, 6, none⟩ = some (.int .i64 0) := (KA10.out).cell 6 rfl
  have c0 : w10.cell? ⟨w3.heap.size, 0, none⟩ = some (.int .i64 0) := (KC10.out).cell 0 rfl
  have c1 : w10.cell? ⟨w3.heap.size, 1, none⟩ = some (.bool false) := (KC10.out).cell 1 rfl
  have c2 : w10.cell? ⟨w3.heap.size, 2, none⟩ = some (.int .i64 0) := (KC10.out).cell 2 rfl
  have c3 : w10.cell? ⟨w3.heap.size, 3, none⟩ = some (.int .i64 0) := (KC10.out).cell 3 rfl
  have c4 : w10.cell? ⟨w3.heap.size, 4, none⟩ = some (.int .i64 0) := (KC10.out).cell 4 rfl
  have c5 : w10.cell? ⟨w3.heap.size, 5, none⟩ = some (.int .i64 0) := (KC10.out).cell 5 rfl
  have c6 : w10.cell? ⟨w3.heap.size, 6, none⟩ = some (.int .i64 0) := (KC10.out).cell 6 rfl
  go_wp2_with fail
  with_reducible refine (asof_nil 3 w10).mono ?_
  rintro e w11 ⟨rfl, hb11⟩
  have KV11 := Lib.hid (KV10.out.after hb11)
  have HB11 := Lib.hid (HB10.out.trans (hb11.mono HB10.out.size))
  clear hb11 a0 a1 a2 a3 a4 a5 a6 c0 c1 c2 c3 c4 c5 c6 hne
  go_wp2_with fail
  with_reducible refine (blen_nil w11).mono ?_
  rintro e w12 ⟨rfl, rfl⟩
  go_wp2_with fail
  with_reducible refine (bseq_nil _).mono ?_
  rintro e w12 ⟨rfl, rfl⟩
  go_wp2_with fail
  with_reducible refine (enc_nil _).mono ?_
  rintro e w13 ⟨ev, rfl, hown, hb13⟩
  obtain ⟨ea, ecap, rfl, _⟩ := owned_parts hown
  have KV13 := Lib.hid (KV11.out.after hb13)
  have HB13 := Lib.hid (HB11.out.trans (hb13.mono HB11.out.size))
  clear hown hb13
  rw [List.length_nil]
  go_wp2_with fail
  with_reducible refine (bcopy_nil _).mono ?_
  rintro e w14 ⟨rfl, rfl⟩
  go_wp2_with fail
  have HVl : Hid (VersAt w14 a l) := ⟨RowsAt.after HR.out.1 HB13.out, HR.out.2⟩
  obtain ⟨N, hN⟩ : ∃ N, w14.heap.size = N := ⟨_, rfl⟩
  have hNw : w.heap.size < N := by rw [← hN]; exact KV13.out.lt
  with_reducible refine (built_ok a cap l hl w14 HVl.out).mono ?_
  rintro e w15 ⟨p, bm, sv, rp, rv, rfl, hbo, hb15⟩
  rw [hN] at hbo
  have z15 := hb15.size
  rw [hN] at z15
  have HBo := Lib.hid hbo
  have KV15 := Lib.hid (KV13.out.after hb15)
  have HB15 := Lib.hid (HB13.out.trans (hb15.mono HB13.out.size))
  clear hbo hb15 hN
  by_cases h40 : 40 < l.length
  · have d1 : decide (40 < l.length) = true := decide_eq_true h40
    have d2 : decide ((40 : Int) < (l.length : Int)) = true := decide_eq_true (by omega)
    clear h40
    go_wp2_with fail
    with_reducible refine (awake_ok12 _).mono ?_
    rintro e w99 ⟨rfl, hb99⟩
    go_wp2_with fail
    go_ret
    exact ⟨rfl, HB15.out.trans (hb99.mono HB15.out.size)⟩
  · have d1 : decide (40 < l.length) = false := decide_eq_false h40
    have d2 : decide ((40 : Int) < (l.length : Int)) = false := decide_eq_false (by omega)
    have hVl : (runV [] l).length ≤ 40 := by have := runV_len [] l; simp at this; omega
    obtain ⟨V, hVe⟩ : ∃ V, runV [] l = V := ⟨_, rfl⟩
    rw [hVe] at HBo HGood HI64 hVl
    clear h40 hVe
    go_wp2_with fail
    with_reducible refine (bcopy_ok N p bm sv V w15 z15 HBo.out.st (by omega)).mono ?_
    rintro e w16 ⟨px, bx, vx, rfl, hcx, hb16, hap⟩
    have HTwo : Hid (Two w16 N p bm sv V px bx vx V) := ⟨HBo.out.st.after hb16, hcx, fun b hb hc => by
      have := HBo.out.st.bs_lt b hb
      have := hap b hc
      omega⟩
    have HRf := Lib.hid (HBo.out.rf.after hb16)
    have KV16 := Lib.hid (KV15.out.after hb16)
    have HB16 := Lib.hid (HB15.out.trans (hb16.mono HB15.out.size))
    have z16 := hb16.size
    clear hcx hb16 hap
    go_wp2_with fail
    with_reducible refine (same_ok12 N N px bx vx rp rv V w16 HTwo.out.r HRf.out (by omega)).mono ?_
    rintro e w17 ⟨rfl, hb17⟩
    have HTwo17 := Lib.hid (HTwo.out.after hb17)
    have HRf17 := Lib.hid (HRf.out.after hb17)
    have KV17 := Lib.hid (KV16.out.after hb17)
    have HB17 := Lib.hid (HB16.out.trans (hb17.mono HB16.out.size))
    have z17 := hb17.size
    clear hb17
    go_wp2_with fail
    with_reducible refine (bseq_ok N p bm sv V w17 HTwo17.out.l (by omega)).mono ?_
    rintro e w18 ⟨rfl, rfl⟩
    obtain ⟨S, hS⟩ : ∃ S, IntKind.i64.wrap (seqV V + 1) = S := ⟨_, rfl⟩
    have HLB : Hid (∀ q y, latP V q S = some y → y.s < S) := fun q y h => lat_before HGood.out HI64.out hS h
    obtain ⟨T, hT⟩ : ∃ T, seqV V = T := ⟨_, rfl⟩
    rw [hT] at hS
    rw [hT]
    clear hT
    have y0 : w18.cell? ⟨w.heap.size, 0, none⟩ = some (.int .i64 ys) := (KV17.out).cell 0 rfl
    have y1 : w18.cell? ⟨w.heap.size, 1, none⟩ = some (.bool yc) := (KV17.out).cell 1 rfl
    have y2 : w18.cell? ⟨w.heap.size, 2, none⟩ = some (.int .i64 yk) := (KV17.out).cell 2 rfl
    have y3 : w18.cell? ⟨w.heap.size, 3, none⟩ = some (.int .i64 yd) := (KV17.out).cell 3 rfl
    have y4 : w18.cell? ⟨w.heap.size, 4, none⟩ = some (.int .i64 yn) := (KV17.out).cell 4 rfl
    have y5 : w18.cell? ⟨w.heap.size, 5, none⟩ = some (.int .i64 ym) := (KV17.out).cell 5 rfl
    have y6 : w18.cell? ⟨w.heap.size, 6, none⟩ = some (.int .i64 yp) := (KV17.out).cell 6 rfl
    have yf := KV17.out.free 0
    go_wp2_with fail
    obtain ⟨w19, hw19⟩ : ∃ W, w18.setCell ⟨w.heap.size, 0, none⟩ (.int .i64 S) = W := ⟨_, rfl⟩
    have ht19 : Turn [w.heap.size] w18 w19 := by rw [← hw19]; exact Turn.of_grown (grown_setCell _ _ _ _) (by simp)
    have KV19 : Hid (Blk w19 w.heap.size #[.int .i64 S, .bool yc, .int .i64 yk, .int .i64 yd, .int .i64 yn, .int .i64 ym, .int .i64 yp] 31) := by rw [← hw19]; exact KV17.out.set 0 _
    have hnt : ∀ b ∈ [w.heap.size], ∀ cur, w18.heap[b]? ≠ some (.cells cur 3 (0, 0)) := fun b hb cur hc => by
      obtain rfl := List.mem_singleton.1 hb
      have h2 : w18.heap[w.heap.size]? = _ := KV17.out
      rw [h2] at hc
      simp at hc
    have hge : ∀ {q m : Nat} {u : Value} {U : List Vs}, StAt w18 N q m u U → StAt w19 N q m u U := fun h => h.turn ht19 (by have := h.hp; simp; omega) (by have := h.hm; simp; omega) (fun g hg hb => by
      have := h.bs_ge g (by unfold StAt.bs; rw [hg]; simp)
      obtain rfl := List.mem_singleton.1 hb
      omega) hnt
    have HTwo19 : Hid (Two w19 N p bm sv V px bx vx V) := ⟨hge HTwo17.out.l, hge HTwo17.out.r, HTwo17.out.apart⟩
    have HRf19 : Hid (RfAt w19 N rp rv V) := HRf17.out.turn ht19 (by have := HRf17.out.hp; simp; omega) (fun g hg hb => by
      have := (own_cells HRf17.out.own hg).1
      obtain rfl := List.mem_singleton.1 hb
      omega)
    have HB19 : Hid (Below w.heap.size w w19) := HB17.out.trans (ht19.below HB17.out.size (by simp))
    have z19 := ht19.size
    rw [hw19]
    clear hw19 ht19 hnt hge y0 y1 y2 y3 y4 y5 y6 yf
    have HCL : Hid (Calls Try.prog 12 #[.pointer (some ⟨p, 0, none⟩), .agg #[.int .i64 S, .bool yc, .int .i64 yk, .int .i64 yd, .int .i64 yn, .int .i64 ym, .int .i64 yp]] w19 (CallEnd w19 N p bm sv V ⟨S, yc, yk, yd, yn, ym, yp⟩)) := calls_ok N p bm sv V ⟨S, yc, yk, yd, yn, ym, yp⟩ HVO.out.n HVO.out.m w19 (by omega) HTwo19.out.l (by omega)
    with_reducible refine HCL.out.mono ?_
    rintro e w20 ⟨s2, rfl, hst, ht, hg⟩
    have HTwo20 := Lib.hid (HTwo19.out.step hst ht hg)
    have HRf20 := Lib.hid (HRf19.out.by_st HTwo19.out.l ht)
    have KV20 := Lib.hid (ht.blk KV19.out (fun hb => by have := HTwo19.out.l.bs_ge _ hb; omega))
    have HB20 := Lib.hid (HB19.out.trans (ht.below HB19.out.size (fun b hb => by have := HTwo19.out.l.bs_ge _ hb; omega)))
    obtain ⟨cv, hcv⟩ : ∃ c, callV3 V ⟨S, yc, yk, yd, yn, ym, yp⟩ = c := ⟨_, rfl⟩
    rw [hcv]
    obtain ⟨V2, hV2⟩ : ∃ U, callV V ⟨S, yc, yk, yd, yn, ym, yp⟩ = U := ⟨_, rfl⟩
    rw [hV2] at HTwo20
    have z20 := ht.size
    clear hcv hV2 hst ht hg HCL
    have y1 : w20.cell? ⟨w.heap.size, 1, none⟩ = some (.bool yc) := (KV20.out).cell 1 rfl
    have y2 : w20.cell? ⟨w.heap.size, 2, none⟩ = some (.int .i64 yk) := (KV20.out).cell 2 rfl
    have y3 : w20.cell? ⟨w.heap.size, 3, none⟩ = some (.int .i64 yd) := (KV20.out).cell 3 rfl
    have y0 : w20.cell? ⟨w.heap.size, 0, none⟩ = some (.int .i64 S) := (KV20.out).cell 0 rfl
    go_wp2_with fail
    with_reducible refine (lat_ok N px bx vx V yc yk yd S w20 HTwo20.out.r (by omega)).mono ?_
    rintro e w21 ⟨rfl, hb21⟩
    have HRf21 := Lib.hid (HRf20.out.after hb21)
    have HSt21 := Lib.hid (HTwo20.out.r.after hb21)
    have KV21 := Lib.hid (KV20.out.after hb21)
    have HB21 := Lib.hid (HB20.out.trans (hb21.mono HB20.out.size))
    clear hb21 y0 y1 y2 y3
    cases ho : latP V (yc, yk, yd) S with
    | none =>
      clear ho
      rw [latV_none]
      obtain ⟨w22, hw22⟩ : ∃ W, w21.alloc (.cells #[.int .i64 0, .bool false, .int .i64 0, .int .i64 0, .int .i64 0, .int .i64 0, .int .i64 0] 26) = W := ⟨_, rfl⟩
      have hb22 : Below w21.heap.size w21 w22 := by rw [← hw22]; exact (Below.refl _ _).alloc (Nat.le_refl _) _
      have KY22 : Hid (Blk w22 w21.heap.size #[.int .i64 0, .bool false, .int .i64 0, .int .i64 0, .int .i64 0, .int .i64 0, .int .i64 0] 26) := by rw [← hw22]; exact Blk.new _ _ _
      have HRf22 := Lib.hid (HRf21.out.after hb22)
      have HSt22 := Lib.hid (HSt21.out.after hb22)
      have KV22 := Lib.hid (KV21.out.after hb22)
      have HB22 := Lib.hid (HB21.out.trans (hb22.mono HB21.out.size))
      have HW22 := Lib.hid hw22
      clear hw22 hb22
      go_wp2_with fail
      rw [HW22.out]
      with_reducible refine (same_ok12 N N px bx vx rp rv V w22 HSt22.out HRf22.out (by omega)).mono ?_
      rintro e w23 ⟨rfl, hb23⟩
      have KY23 := Lib.hid (KY22.out.after hb23)
      have KV23 := Lib.hid (KV22.out.after hb23)
      have HB23 := Lib.hid (HB22.out.trans (hb23.mono HB22.out.size))
      clear hb23
      have t0 : w23.cell? ⟨w21.heap.size, 0, none⟩ = some (.int .i64 0) := (KY23.out).cell 0 rfl
      have y0 : w23.cell? ⟨w.heap.size, 0, none⟩ = some (.int .i64 S) := (KV23.out).cell 0 rfl
      go_wp2_with fail
      with_reducible refine (awake_ok12 _).mono ?_
      rintro e w99 ⟨rfl, hb99⟩
      go_wp2_with fail
      go_ret
      exact ⟨rfl, HB23.out.trans (hb99.mono HB23.out.size)⟩
    | some o =>
      have hlt := HLB.out _ _ ho
      clear ho
      obtain ⟨os, oc, ok, od, on, om, op⟩ := o
      dsimp only at hlt
      have hlt' : decide (os < S) = true := decide_eq_true hlt
      clear hlt
      rw [latV_some]
      obtain ⟨w22, hw22⟩ : ∃ W, w21.alloc (.cells #[.int .i64 os, .bool oc, .int .i64 ok, .int .i64 od, .int .i64 on, .int .i64 om, .int .i64 op] 26) = W := ⟨_, rfl⟩
      have hb22 : Below w21.heap.size w21 w22 := by rw [← hw22]; exact (Below.refl _ _).alloc (Nat.le_refl _) _
      have KY22 : Hid (Blk w22 w21.heap.size #[.int .i64 os, .bool oc, .int .i64 ok, .int .i64 od, .int .i64 on, .int .i64 om, .int .i64 op] 26) := by rw [← hw22]; exact Blk.new _ _ _
      have HRf22 := Lib.hid (HRf21.out.after hb22)
      have HSt22 := Lib.hid (HSt21.out.after hb22)
      have KV22 := Lib.hid (KV21.out.after hb22)
      have HB22 := Lib.hid (HB21.out.trans (hb22.mono HB21.out.size))
      have HW22 := Lib.hid hw22
      clear hw22 hb22
      go_wp2_with fail
      rw [HW22.out]
      with_reducible refine (same_ok12 N N px bx vx rp rv V w22 HSt22.out HRf22.out (by omega)).mono ?_
      rintro e w23 ⟨rfl, hb23⟩
      have KY23 := Lib.hid (KY22.out.after hb23)
      have KV23 := Lib.hid (KV22.out.after hb23)
      have HB23 := Lib.hid (HB22.out.trans (hb23.mono HB22.out.size))
      clear hb23
      have t0 : w23.cell? ⟨w21.heap.size, 0, none⟩ = some (.int .i64 os) := (KY23.out).cell 0 rfl
      have y0 : w23.cell? ⟨w.heap.size, 0, none⟩ = some (.int .i64 S) := (KV23.out).cell 0 rfl
      go_wp2_with fail
      with_reducible refine (awake_ok12 _).mono ?_
      rintro e w99 ⟨rfl, hb99⟩
      go_wp2_with fail
      go_ret
      exact ⟨rfl, HB23.out.trans (hb99.mono HB23.out.size)⟩

set_option maxRecDepth 100000 in
open Go.ChangeShapes Go.WideShapes Go.ChangeAt in
theorem walk_BitempNil {H : Type} (enc : TypeId × Value → H) (base : Nat) (W : World) (v : Value) (d : DataW H) (p : List MemPlace) (h : DataW.Trod enc Try.prog W 0 (fun _ => true) true 22 v d p) (ok : Value.okWide Try.prog W .any base 22 v)
    (v1 : Value) (d1 : DataW H) (p1 : List MemPlace) (h1 : DataW.Trod enc Try.prog W 0 (fun _ => true) true 31 v1 d1 p1) (ok1 : Value.okWide Try.prog W .any base 31 v1)
    {ts : List TypeId} {ds : List (DataW H)} (hsz : (DataW.weightsEach Try.prog (22 :: ts) (d :: ds)).all (· ≤ reachBytes) = true) :
    Calls Try.prog 9 #[v, v1] W fun e w' => e = .returned (.bool true) ∧ Below W.heap.size W w' := by
  obtain ⟨a, cap, l, rfl, hl, hc, _, hT⟩ := ops_arg h ok
  obtain ⟨x, rfl, hx⟩ := op_arg h1 ok1
  have hr := slice_reach Try.underlying22 h hsz (j := 0) rfl rfl
  rw [bytesOp] at hr
  exact nil_law a cap l (by omega) x hx W hT


end Go.Proofs.Ytkloijkfaooodaa
