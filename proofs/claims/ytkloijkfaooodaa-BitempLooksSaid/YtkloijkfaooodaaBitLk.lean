/- The statement BitempLooks: the walk. -/
import Derived.Test.YtkloijkfaooodaaBitBu
import Derived.Test.YtkloijkfaooodaaBitDe
import Derived.BigQuiet
namespace Go.Proofs.Ytkloijkfaooodaa
open Go.RowKit Go.Shelf
set_option linter.unusedVariables false
set_option linter.unusedSimpArgs false

def TrL (w : World) (e : Ending) (w' : World) : Prop := e = .returned (.bool true) ∧ Below w.heap.size w w'
theorem kind_ok (c : Bool) (w : World) : Calls Try.prog 27 #[.bool c] w fun e w' => e = .returned (.int .i64 (kindV c)) ∧ w' = w := by
  cases c
  · go_enter Try.func27, Try.ntmps27
    go_wp2_with fail
    go_ret
    exact ⟨rfl, rfl⟩
  · go_enter Try.func27, Try.ntmps27
    go_wp2_with fail
    go_ret
    exact ⟨rfl, rfl⟩

theorem RfAt.recs {w : World} {base p cap : Nat} {a : Option Addr} {V : List Vs} (h : RfAt w base p (.slice a V.length cap) V) : RecsAt w a 7 encR V := by
  obtain ⟨a', cap', he, _, _, _, _, hR⟩ := owned_recs (enc := encR) (size := 7) (fun _ => rfl) h.own rfl
  simp only [Value.slice.injEq, true_and] at he
  obtain ⟨rfl, rfl⟩ := he
  exact hR
/- What is found: the lists, gone through. -/
theorem ofP_take {V : List Vs} {q : PK} {j : Nat} {x : Vs} (hx : V[j]? = some x) : ofP (V.take (j + 1)) q = if x.pl = q then ofP (V.take j) q ++ [x] else ofP (V.take j) q := by
  obtain ⟨hj, e⟩ := List.getElem?_eq_some_iff.1 hx
  rw [List.take_succ_eq_append_getElem hj, e]
  exact ofP_snoc _ _ _
theorem ofP_at {V : List Vs} {q : PK} {j : Nat} {x : Vs} (hx : V[j]? = some x) (hq : x.pl = q) : (ofP V q)[(ofP (V.take j) q).length]? = some x := by
  obtain ⟨hj, e⟩ := List.getElem?_eq_some_iff.1 hx
  have hV : V = V.take j ++ x :: V.drop (j + 1) := by
    have := (List.take_append_drop j V).symm
    rwa [List.drop_eq_getElem_cons hj, e] at this
  have ho : ofP V q = ofP (V.take j) q ++ x :: ofP (V.drop (j + 1)) q := by
    conv => lhs; rw [hV]
    unfold ofP
    rw [List.filter_append, List.filter_cons, if_pos (by simpa using hq)]
  rw [ho, List.getElem?_append_right (Nat.le_refl _)]
  simp
/-- m of the days are behind us. -/
structure DayAt (L : List Vs) (m : Nat) (day : Int) : Prop where
  le : m ≤ L.length
  gt : ∀ x ∈ L.drop m, day ≤ x.d
theorem DayAt.none {V L : List Vs} {c : Bool} {k f t s day : Int} {m : Nat} (hD : DaysP V c k f t s L) (h : DayAt L m day) (hn : latP V (c, k, day) s = none) : DayAt L m (day + 1) :=
  ⟨h.le, fun x hx => by
    have h1 := h.gt x hx
    have h2 := ((hD.2 x).1 (List.mem_of_mem_drop hx)).2.2
    have : x.d ≠ day := fun e => by rw [e, hn] at h2; cases h2
    omega⟩
theorem DayAt.some {V L : List Vs} {c : Bool} {k f t s day : Int} {m : Nat} {o : Vs} (hD : DaysP V c k f t s L) (hb : ∀ x ∈ L.take m, x.d < day) (h : DayAt L m day) (hf : f ≤ day) (ht : day ≤ t) (ho : latP V (c, k, day) s = some o) : L[m]? = Option.some o ∧ DayAt L (m + 1) (day + 1) ∧ ∀ x ∈ L.take (m + 1), x.d < day + 1 := by
  have hod : o.d = day := by have := (latP_some ho).2.1; simp [Vs.pl] at this; exact this.2.2
  have hin : o ∈ L := (hD.2 o).2 ⟨by omega, by omega, by rw [hod]; exact ho⟩
  have hin2 : o ∈ L.drop m := by
    rw [← List.take_append_drop m L] at hin
    rcases List.mem_append.1 hin with h1 | h1
    · have := hb o h1; omega
    · exact h1
  have hm : m < L.length := by
    have := List.length_pos_of_mem hin2
    rw [List.length_drop] at this
    omega
  have hdr := List.drop_eq_getElem_cons hm
  have hpw : (L.drop m).Pairwise (fun a b => a.d < b.d) := hD.1.sublist (List.drop_sublist _ _)
  rw [hdr] at hpw hin2
  have h1 := (List.pairwise_cons.1 hpw).1
  have hh := h.gt L[m] (by rw [hdr]; exact List.mem_cons_self)
  have he : o = L[m] := by
    rcases List.mem_cons.1 hin2 with e | e
    · exact e
    · have := h1 o e; omega
  refine ⟨by rw [List.getElem?_eq_getElem hm, he], ⟨hm, fun x hx => ?_⟩, fun x hx => ?_⟩
  · have := h1 x hx
    rw [← he] at this
    omega
  · rw [List.take_succ_eq_append_getElem hm] at hx
    rcases List.mem_append.1 hx with h2 | h2
    · have := hb x h2; omega
    · rw [List.mem_singleton.1 h2, ← he]; omega
theorem DayAt.fin {V L : List Vs} {c : Bool} {k f t s day : Int} {m : Nat} (hD : DaysP V c k f t s L) (h : DayAt L m day) (ht : t < day) : m = L.length := by
  have hl := h.le
  rcases Nat.lt_or_ge m L.length with h1 | h1
  · have hm := h.gt L[m] (by rw [List.drop_eq_getElem_cons h1]; exact List.mem_cons_self)
    have := ((hD.2 L[m]).1 (List.getElem_mem h1)).2.1
    omega
  · omega
theorem days_few {L : List Vs} : ∀ {f t : Int}, L.Pairwise (fun a b => a.d < b.d) → (∀ x ∈ L, f ≤ x.d ∧ x.d ≤ t) → L.length ≤ (t - f + 1).toNat := by
  induction L with
  | nil => intro f t _ _; simp
  | cons a L ih =>
    intro f t h hb
    have h1 := List.pairwise_cons.1 h
    have h2 := ih (f := a.d + 1) (t := t) h1.2 fun x hx => ⟨by have := h1.1 x hx; omega, (hb x (by simp [hx])).2⟩
    have h3 := hb a (by simp)
    simp only [List.length_cons]
    omega
theorem lat_at {V : List Vs} {q : PK} {s i : Int} (h : latI V q s i) : (i = -1 ∧ latP V q s = none) ∨ ∃ (n : Nat) (o : Vs), i = n ∧ n < V.length ∧ V[n]? = some o ∧ latP V q s = some o := latI_lat h


set_option maxHeartbeats 16000000 in
set_option maxRecDepth 100000 in
theorem looks_law (a : Option Addr) (cap : Nat) (l : List Vs) (hl : l.length ≤ 2513169434880) (v : Vs) (t : Int) (w : World) (h : VersAt w a l) :
    Calls Try.prog 7 #[.slice a l.length cap, .agg (encS v).toArray, .int .i64 t] w (TrL w) := by
  have HR := Lib.hid h
  clear h
  obtain ⟨ys, yc, yk, yd, yn, ym, yp⟩ := v
  dsimp only [encS]
  obtain ⟨w0, hw0⟩ : ∃ W, w.alloc (.cells #[.int .i64 ys, .bool yc, .int .i64 yk, .int .i64 yd, .int .i64 yn, .int .i64 ym, .int .i64 yp] 26) = W := ⟨_, rfl⟩
  have hb0 : Below w.heap.size w w0 := by rw [← hw0]; exact (Below.refl _ _).alloc (Nat.le_refl _) _
  have KV0 : Hid (Blk w0 w.heap.size #[.int .i64 ys, .bool yc, .int .i64 yk, .int .i64 yd, .int .i64 yn, .int .i64 ym, .int .i64 yp] 26) := by rw [← hw0]; exact Blk.new _ _ _
  have HB0 := Lib.hid hb0
  have HW0 := Lib.hid hw0
  have HV0 : Hid (VersAt w0 a l) := ⟨RowsAt.after HR.out.1 hb0, HR.out.2⟩
  clear hw0 hb0
  go_enter Try.func7, Try.ntmps7
  go_wp2_with fail
  rw [HW0.out]
  obtain ⟨N, hN⟩ : ∃ N, w0.heap.size = N := ⟨_, rfl⟩
  have hNw : w.heap.size < N := by rw [← hN]; exact KV0.out.lt
  with_reducible refine (built_ok a cap l hl w0 HV0.out).mono ?_
  rintro e w1 ⟨p, bm, sv, rp, rv, rfl, hbo, hb1⟩
  rw [hN] at hbo
  have z1 := hb1.size
  rw [hN] at z1
  have HBo := Lib.hid hbo
  have KV1 := Lib.hid (KV0.out.after hb1)
  have HB1 := Lib.hid (HB0.out.trans (hb1.mono HB0.out.size))
  clear hbo hb1 hN
  have y0 : w1.cell? ⟨w.heap.size, 0, none⟩ = some (.int .i64 ys) := (KV1.out).cell 0 rfl
  have y1 : w1.cell? ⟨w.heap.size, 1, none⟩ = some (.bool yc) := (KV1.out).cell 1 rfl
  have y2 : w1.cell? ⟨w.heap.size, 2, none⟩ = some (.int .i64 yk) := (KV1.out).cell 2 rfl
  have y3 : w1.cell? ⟨w.heap.size, 3, none⟩ = some (.int .i64 yd) := (KV1.out).cell 3 rfl
  have y4 : w1.cell? ⟨w.heap.size, 4, none⟩ = some (.int .i64 yn) := (KV1.out).cell 4 rfl
  have y5 : w1.cell? ⟨w.heap.size, 5, none⟩ = some (.int .i64 ym) := (KV1.out).cell 5 rfl
  have y6 : w1.cell? ⟨w.heap.size, 6, none⟩ = some (.int .i64 yp) := (KV1.out).cell 6 rfl
  by_cases hbad : 60 < l.length ∨ yd < 0 ∨ 60 < yd ∨ 60 < t
  · by_cases h1 : 60 < l.length
    · have d1 : decide (60 < l.length) = true := decide_eq_true h1
      have d2 : decide ((60 : Int) < (l.length : Int)) = true := decide_eq_true (by omega)
      clear h1 hbad
      go_wp2_with fail
      with_reducible refine (awake_ok12 _).mono ?_
      rintro e w99 ⟨rfl, hb99⟩
      go_wp2_with fail
      go_ret
      exact ⟨rfl, HB1.out.trans (hb99.mono HB1.out.size)⟩
    · have d1 : decide (60 < l.length) = false := decide_eq_false h1
      have d2 : decide ((60 : Int) < (l.length : Int)) = false := decide_eq_false (by omega)
      by_cases h2 : yd < 0
      · have d3 : decide (yd < 0) = true := decide_eq_true h2
        clear h1 h2 hbad
        go_wp2_with fail
        with_reducible refine (awake_ok12 _).mono ?_
        rintro e w99 ⟨rfl, hb99⟩
        go_wp2_with fail
        go_ret
        exact ⟨rfl, HB1.out.trans (hb99.mono HB1.out.size)⟩
      · have d3 : decide (yd < 0) = false := decide_eq_false h2
        by_cases h3 : 60 < yd
        · have d4 : decide (60 < yd) = true := decide_eq_true h3
          clear h1 h2 h3 hbad
          go_wp2_with fail
          with_reducible refine (awake_ok12 _).mono ?_
          rintro e w99 ⟨rfl, hb99⟩
          go_wp2_with fail
          go_ret
          exact ⟨rfl, HB1.out.trans (hb99.mono HB1.out.size)⟩
        · have d4 : decide (60 < yd) = false := decide_eq_false h3
          have d5 : decide (60 < t) = true := decide_eq_true (by omega)
          clear h1 h2 h3 hbad
          go_wp2_with fail
          with_reducible refine (awake_ok12 _).mono ?_
          rintro e w99 ⟨rfl, hb99⟩
          go_wp2_with fail
          go_ret
          exact ⟨rfl, HB1.out.trans (hb99.mono HB1.out.size)⟩
  · have d1 : decide (60 < l.length) = false := decide_eq_false (by omega)
    have d2 : decide ((60 : Int) < (l.length : Int)) = false := decide_eq_false (by omega)
    have d3 : decide (yd < 0) = false := decide_eq_false (by omega)
    have d4 : decide (60 < yd) = false := decide_eq_false (by omega)
    have d5 : decide (60 < t) = false := decide_eq_false (by omega)
    have hVl : (runV [] l).length ≤ 60 := by have := runV_len [] l; simp at this; omega
    obtain ⟨V, hVe⟩ : ∃ V, runV [] l = V := ⟨_, rfl⟩
    rw [hVe] at HBo hVl
    have HBad := Lib.hid hbad
    clear hVe hbad
    go_wp2_with fail
    with_reducible refine (kind_ok yc w1).mono ?_
    rintro e w1 ⟨rfl, rfl⟩
    go_wp2_with fail
    with_reducible refine (rlat_ok N rp rv V yc yk yd ys w1 HBo.out.rf (by omega)).mono ?_
    rintro e w2 ⟨i, rfl, hi, hb2⟩
    have HLt := Lib.hid (lat_at hi)
    have HBo2 := Lib.hid (HBo.out.after hb2)
    have KV2 := Lib.hid (KV1.out.after hb2)
    have HB2 := Lib.hid (HB1.out.trans (hb2.mono HB1.out.size))
    clear hi hb2 y0 y1 y2 y3 y4 y5 y6
    have y0 : w2.cell? ⟨w.heap.size, 0, none⟩ = some (.int .i64 ys) := (KV2.out).cell 0 rfl
    have y1 : w2.cell? ⟨w.heap.size, 1, none⟩ = some (.bool yc) := (KV2.out).cell 1 rfl
    have y2 : w2.cell? ⟨w.heap.size, 2, none⟩ = some (.int .i64 yk) := (KV2.out).cell 2 rfl
    have y3 : w2.cell? ⟨w.heap.size, 3, none⟩ = some (.int .i64 yd) := (KV2.out).cell 3 rfl
    have y4 : w2.cell? ⟨w.heap.size, 4, none⟩ = some (.int .i64 yn) := (KV2.out).cell 4 rfl
    have y5 : w2.cell? ⟨w.heap.size, 5, none⟩ = some (.int .i64 ym) := (KV2.out).cell 5 rfl
    have y6 : w2.cell? ⟨w.heap.size, 6, none⟩ = some (.int .i64 yp) := (KV2.out).cell 6 rfl
    go_wp2_with fail
    with_reducible refine (lat_ok N p bm sv V yc yk yd ys w2 HBo2.out.st (by omega)).mono ?_
    rintro e w3 ⟨rfl, hb3⟩
    have HBo3 := Lib.hid (HBo2.out.after hb3)
    have KV3 := Lib.hid (KV2.out.after hb3)
    have HB3 := Lib.hid (HB2.out.trans (hb3.mono HB2.out.size))
    clear hb3 y0 y1 y2 y3 y4 y5 y6
    obtain ⟨ra, rc, rfl, _⟩ := owned_recs (enc := encR) (size := 7) (fun _ => rfl) HBo3.out.rf.own rfl
    rcases HLt.out with ⟨rfl, ho⟩ | ⟨n, o, rfl, hn, hno, ho⟩
    · rw [ho, latV_none]
      obtain ⟨w4, hw4⟩ : ∃ W, w3.alloc (.cells #[.int .i64 0, .bool false, .int .i64 0, .int .i64 0, .int .i64 0, .int .i64 0, .int .i64 0] 26) = W := ⟨_, rfl⟩
      have hb4 : Below w3.heap.size w3 w4 := by rw [← hw4]; exact (Below.refl _ _).alloc (Nat.le_refl _) _
      have KA4 : Hid (Blk w4 w3.heap.size #[.int .i64 0, .bool false, .int .i64 0, .int .i64 0, .int .i64 0, .int .i64 0, .int .i64 0] 26) := by rw [← hw4]; exact Blk.new _ _ _
      have HW4 := Lib.hid hw4
      have z0 : w4.cell? ⟨w3.heap.size, 0, none⟩ = some (.int .i64 0) := (KA4.out).cell 0 rfl
      have z1 : w4.cell? ⟨w3.heap.size, 1, none⟩ = some (.bool false) := (KA4.out).cell 1 rfl
      have z2 : w4.cell? ⟨w3.heap.size, 2, none⟩ = some (.int .i64 0) := (KA4.out).cell 2 rfl
      have z3 : w4.cell? ⟨w3.heap.size, 3, none⟩ = some (.int .i64 0) := (KA4.out).cell 3 rfl
      have z4 : w4.cell? ⟨w3.heap.size, 4, none⟩ = some (.int .i64 0) := (KA4.out).cell 4 rfl
      have z5 : w4.cell? ⟨w3.heap.size, 5, none⟩ = some (.int .i64 0) := (KA4.out).cell 5 rfl
      have z6 : w4.cell? ⟨w3.heap.size, 6, none⟩ = some (.int .i64 0) := (KA4.out).cell 6 rfl
      have kv4 := KV3.out.after hb4
      have y0 : w4.cell? ⟨w.heap.size, 0, none⟩ = some (.int .i64 ys) := (kv4).cell 0 rfl
      have y1 : w4.cell? ⟨w.heap.size, 1, none⟩ = some (.bool yc) := (kv4).cell 1 rfl
      have y2 : w4.cell? ⟨w.heap.size, 2, none⟩ = some (.int .i64 yk) := (kv4).cell 2 rfl
      have y3 : w4.cell? ⟨w.heap.size, 3, none⟩ = some (.int .i64 yd) := (kv4).cell 3 rfl
      have y4 : w4.cell? ⟨w.heap.size, 4, none⟩ = some (.int .i64 yn) := (kv4).cell 4 rfl
      have y5 : w4.cell? ⟨w.heap.size, 5, none⟩ = some (.int .i64 ym) := (kv4).cell 5 rfl
      have y6 : w4.cell? ⟨w.heap.size, 6, none⟩ = some (.int .i64 yp) := (kv4).cell 6 rfl
      rw [← hw4] at z0 z1 z2 z3 z4 z5 z6 y0 y1 y2 y3 y4 y5 y6
      have heq := fun w => ver_neq 0 false 0 0 0 0 0 0 false 0 0 0 0 0 w
      rw [decide_eq_true rfl] at heq
      have HB4 := Lib.hid hb4
      clear hw4 hb4 ho kv4
      go_wp2_with (go_quiet (fail))
      have hbq : Below w3.heap.size w3 ((w3.alloc (.cells #[.int .i64 0, .bool false, .int .i64 0, .int .i64 0, .int .i64 0, .int .i64 0, .int .i64 0] 26)).drewN nq) := by rw [HW4.out]; exact HB4.out.trans ((below_draws _ nq).mono HB4.out.size)
      obtain ⟨w5, hw5⟩ : ∃ W, (w3.alloc (.cells #[.int .i64 0, .bool false, .int .i64 0, .int .i64 0, .int .i64 0, .int .i64 0, .int .i64 0] 26)).drewN nq = W := ⟨_, rfl⟩
      rw [hw5] at hbq ⊢
      clear z0 z1 z2 z3 z4 z5 z6 y0 y1 y2 y3 y4 y5 y6 heq hw5 KA4 HW4 HB4
      have HBo5 := Lib.hid (HBo3.out.after hbq)
      have KV5 := Lib.hid (KV3.out.after hbq)
      have HB5 := Lib.hid (HB3.out.trans (hbq.mono HB3.out.size))
      clear hbq HBo HBo2 HBo3 KV0 KV1 KV2 KV3 HB0 HB1 HB2 HB3
      with_reducible refine (bhist_ok N p bm sv V yc yk yd w5 HBo5.out.st (by omega)).mono ?_
      rintro e w6 ⟨Bs, rfl, hq6, hb6, _⟩
      have HQ6 := Lib.hid hq6
      have HBo6 := Lib.hid (HBo5.out.after hb6)
      have KV6 := Lib.hid (KV5.out.after hb6)
      have HB6 := Lib.hid (HB5.out.trans (hb6.mono HB5.out.size))
      clear hq6 hb6
      go_wp2_with fail
      have hof : (ofP V (yc, yk, yd)).length ≤ V.length := ofP_len V (yc, yk, yd)
      with_reducible refine (list_ok Bs (ofP V (yc, yk, yd)) w6 HQ6.out (by omega)).mono ?_
      rintro e w7 ⟨ha, hc, rfl, hrec, hb7⟩
      have HH7 := Lib.hid hrec
      have HBo7 := Lib.hid (HBo6.out.after hb7)
      have KV7 := Lib.hid (KV6.out.after hb7)
      have HB7 := Lib.hid (HB6.out.trans (hb7.mono HB6.out.size))
      clear hrec hb7
      have y0 : w7.cell? ⟨w.heap.size, 0, none⟩ = some (.int .i64 ys) := (KV7.out).cell 0 rfl
      have y1 : w7.cell? ⟨w.heap.size, 1, none⟩ = some (.bool yc) := (KV7.out).cell 1 rfl
      have y2 : w7.cell? ⟨w.heap.size, 2, none⟩ = some (.int .i64 yk) := (KV7.out).cell 2 rfl
      have y3 : w7.cell? ⟨w.heap.size, 3, none⟩ = some (.int .i64 yd) := (KV7.out).cell 3 rfl
      have y4 : w7.cell? ⟨w.heap.size, 4, none⟩ = some (.int .i64 yn) := (KV7.out).cell 4 rfl
      have y5 : w7.cell? ⟨w.heap.size, 5, none⟩ = some (.int .i64 ym) := (KV7.out).cell 5 rfl
      have y6 : w7.cell? ⟨w.heap.size, 6, none⟩ = some (.int .i64 yp) := (KV7.out).cell 6 rfl
      go_wp2_with fail
      with_reducible refine (days_ok N p bm sv V yc yk yd t ys w7 HBo7.out.st (by omega)).mono ?_
      rintro e w8 ⟨L, hD, Bd, rfl, hq8, hb8, _⟩
      have HQ8 := Lib.hid hq8
      have HD := Lib.hid hD
      have hLl : L.length ≤ 200 := by
        have := days_few hD.1 (fun x hx => ⟨((hD.2 x).1 hx).1, ((hD.2 x).1 hx).2.1⟩)
        have := HBad.out
        omega
      have HH8 : Hid (RecsAt w8 ha 7 encS (ofP V (yc, yk, yd))) := RowsAt.after HH7.out hb8
      have HBo8 := Lib.hid (HBo7.out.after hb8)
      have KV8 := Lib.hid (KV7.out.after hb8)
      have HB8 := Lib.hid (HB7.out.trans (hb8.mono HB7.out.size))
      clear hq8 hb8 hD y0 y1 y2 y3 y4 y5 y6
      go_wp2_with fail
      with_reducible refine (list_ok Bd L w8 HQ8.out hLl).mono ?_
      rintro e w9 ⟨da, dc, rfl, hrecd, hb9⟩
      have HL9 := Lib.hid hrecd
      have HH9 : Hid (RecsAt w9 ha 7 encS (ofP V (yc, yk, yd))) := RowsAt.after HH8.out hb9
      have HBo9 := Lib.hid (HBo8.out.after hb9)
      have KV9 := Lib.hid (KV8.out.after hb9)
      have HB9 := Lib.hid (HB8.out.trans (hb9.mono HB8.out.size))
      clear hrecd hb9
      have hRR := HBo9.out.rf.recs
      have HRR := Lib.hid hRR
      obtain ⟨q, hq⟩ : ∃ q, (yc, yk, yd) = q := ⟨_, rfl⟩
      have HQ := Lib.hid hq
      obtain ⟨H, hH⟩ : ∃ H, ofP V (yc, yk, yd) = H := ⟨_, rfl⟩
      have HOf : Hid (ofP V q = H) := by rw [← hq]; exact hH
      rw [hH] at HH9 hof ⊢
      have hbad := HBad.out
      clear hRR hq hH HQ6 HQ8 HH7 HH8 HBo5 HBo6 HBo7 HBo8 KV5 KV6 KV7 KV8 HB5 HB6 HB7 HB8 HBad
      go_wp2_with fail
      go_loopw [17, 18] (fun n i wr => ∃ j n' : Nat, j ≤ V.length ∧ i = .int .i64 j ∧ n = .int .i64 n' ∧ Hid ((ofP (V.take j) q).length = n') ∧ Hid (Below w9.heap.size w9 wr)) (fun n i _ => V.length - (intOf i).toNat)
      case atStart => exact ⟨0, 0, by omega, rfl, rfl, by show _ = _; simp [ofP], Below.refl _ _⟩
      case round =>
        obtain ⟨j, n', hj, rfl, rfl, HTk, HBq⟩ := hrel
        have zq := HBq.out.size
        by_cases hlt : j < V.length
        · have hx := List.getElem?_eq_getElem hlt
          obtain ⟨x, hx'⟩ : ∃ x, V[j] = x := ⟨_, rfl⟩
          rw [hx'] at hx
          have hR2 := HRR.out
          obtain ⟨b', o', hra, _⟩ := hR2 (by omega)
          have hR3 : RecsAt wr (some ⟨b', o', none⟩) 7 encR V := by rw [← hra]; exact RowsAt.after hR2 HBq.out
          have HX := Lib.hid hx
          obtain ⟨os, oc, ok, od, on, om, op⟩ := x
          have c0 : wr.cell? ⟨rp, 0, none⟩ = some (.slice (some ⟨b', o', none⟩) V.length rc) := by rw [← hra]; exact (HBo9.out.rf.blk.after HBq.out).cell 0 rfl
          have r1 : wr.cell? ⟨b', o' + j * 7 + 1, none⟩ = some (.int .i64 (kindV oc)) := RecsAt.cell hR3 rfl hlt hx (j := 1) rfl
          have r2 : wr.cell? ⟨b', o' + j * 7 + 2, none⟩ = some (.int .i64 ok) := RecsAt.cell hR3 rfl hlt hx (j := 2) rfl
          have r3 : wr.cell? ⟨b', o' + j * 7 + 3, none⟩ = some (.int .i64 od) := RecsAt.cell hR3 rfl hlt hx (j := 3) rfl
          have kv := KV9.out.after HBq.out
          have y0 : wr.cell? ⟨w.heap.size, 0, none⟩ = some (.int .i64 ys) := (kv).cell 0 rfl
          have y1 : wr.cell? ⟨w.heap.size, 1, none⟩ = some (.bool yc) := (kv).cell 1 rfl
          have y2 : wr.cell? ⟨w.heap.size, 2, none⟩ = some (.int .i64 yk) := (kv).cell 2 rfl
          have y3 : wr.cell? ⟨w.heap.size, 3, none⟩ = some (.int .i64 yd) := (kv).cell 3 rfl
          have y4 : wr.cell? ⟨w.heap.size, 4, none⟩ = some (.int .i64 yn) := (kv).cell 4 rfl
          have y5 : wr.cell? ⟨w.heap.size, 5, none⟩ = some (.int .i64 ym) := (kv).cell 5 rfl
          have y6 : wr.cell? ⟨w.heap.size, 6, none⟩ = some (.int .i64 yp) := (kv).cell 6 rfl
          have i1 : (0 : Int) ≤ (j : Int) := by omega
          have i2 : (j : Int) < (V.length : Int) := by omega
          have HRa := Lib.hid hra
          clear hx hx' hR2 hR3 kv hra
          by_cases h1 : yc = oc
          case neg =>
            have e1 : (kindV oc == kindV yc) = false := by rw [beq_eq_false_iff_ne]; exact fun e => h1 (kindV_inj e).symm
            have HN0 : Hid ((ofP (V.take (j + 1)) q).length = n') := by show _ = _; rw [ofP_take HX.out, if_neg (fun e => h1 (by rw [← HQ.out] at e; simp [Vs.pl] at e; exact e.1.symm))]; exact HTk.out
            clear h1
            go_wp2_with (go_quiet (fail))
            have hbd : Below w9.heap.size w9 (wr.drewN nq) := HBq.out.trans ((below_draws _ nq).mono zq)
            have HBd := Lib.hid hbd
            clear hbd
            go_wp2_with fail
            go_roundw
            case rel => exact ⟨j + 1, n', by omega, by go_num, rfl, HN0, HBd⟩
            case measure => simp [intOf]; omega
          subst h1
          by_cases h2 : yk = ok
          case neg =>
            have e1 : (ok == yk) = false := by rw [beq_eq_false_iff_ne]; exact fun e => h2 e.symm
            have HN0 : Hid ((ofP (V.take (j + 1)) q).length = n') := by show _ = _; rw [ofP_take HX.out, if_neg (fun e => h2 (by rw [← HQ.out] at e; simp [Vs.pl] at e; exact e.1.symm))]; exact HTk.out
            clear h2
            go_wp2_with (go_quiet (fail))
            have hbd : Below w9.heap.size w9 (wr.drewN nq) := HBq.out.trans ((below_draws _ nq).mono zq)
            have HBd := Lib.hid hbd
            clear hbd
            go_wp2_with fail
            go_roundw
            case rel => exact ⟨j + 1, n', by omega, by go_num, rfl, HN0, HBd⟩
            case measure => simp [intOf]; omega
          subst h2
          by_cases h3 : yd = od
          case neg =>
            have e1 : (od == yd) = false := by rw [beq_eq_false_iff_ne]; exact fun e => h3 e.symm
            have HN0 : Hid ((ofP (V.take (j + 1)) q).length = n') := by show _ = _; rw [ofP_take HX.out, if_neg (fun e => h3 (by rw [← HQ.out] at e; simp [Vs.pl] at e; exact e.symm))]; exact HTk.out
            clear h3
            go_wp2_with (go_quiet (fail))
            have hbd : Below w9.heap.size w9 (wr.drewN nq) := HBq.out.trans ((below_draws _ nq).mono zq)
            have HBd := Lib.hid hbd
            clear hbd
            go_wp2_with fail
            go_roundw
            case rel => exact ⟨j + 1, n', by omega, by go_num, rfl, HN0, HBd⟩
            case measure => simp [intOf]; omega
          subst h3
          have hq2 : (⟨os, yc, yk, yd, on, om, op⟩ : Vs).pl = q := HQ.out
          have HN1 : Hid ((ofP (V.take (j + 1)) q).length = n' + 1) := by show _ = _; rw [ofP_take HX.out, if_pos hq2, List.length_append, HTk.out]; rfl
          have hHx : H[n']? = some ⟨os, yc, yk, yd, on, om, op⟩ := by rw [← HOf.out, ← HTk.out]; exact ofP_at HX.out hq2
          have hnl : n' < H.length := (List.getElem?_eq_some_iff.1 hHx).1
          have hHr := HH9.out
          obtain ⟨b, o, rfl, _⟩ := hHr (by omega)
          obtain ⟨oc, hoc⟩ : ∃ oc, yc = oc := ⟨_, rfl⟩
          obtain ⟨ok, hok⟩ : ∃ ok, yk = ok := ⟨_, rfl⟩
          obtain ⟨od, hod⟩ : ∃ od, yd = od := ⟨_, rfl⟩
          rw [hoc, hok, hod] at hHx
          have hXo := HX.out
          rw [hoc, hok, hod] at hXo
          have HSS : Hid (∀ W, Below w9.heap.size w9 W → (W.cell? ⟨rp, 0, none⟩ = some (.slice (some ⟨b', o', none⟩) V.length rc) ∧ (W.cell? ⟨b, o + n' * 7, none⟩ = some (.int .i64 os) ∧ W.cell? ⟨b, o + n' * 7 + 1, none⟩ = some (.bool oc) ∧ W.cell? ⟨b, o + n' * 7 + 2, none⟩ = some (.int .i64 ok) ∧ W.cell? ⟨b, o + n' * 7 + 3, none⟩ = some (.int .i64 od) ∧ W.cell? ⟨b, o + n' * 7 + 4, none⟩ = some (.int .i64 on) ∧ W.cell? ⟨b, o + n' * 7 + 5, none⟩ = some (.int .i64 om) ∧ W.cell? ⟨b, o + n' * 7 + 6, none⟩ = some (.int .i64 op)) ∧ W.cell? ⟨b', o' + j * 7, none⟩ = some (.int .i64 os) ∧ W.cell? ⟨b', o' + j * 7 + 1, none⟩ = some (.int .i64 (kindV oc)) ∧ W.cell? ⟨b', o' + j * 7 + 2, none⟩ = some (.int .i64 ok) ∧ W.cell? ⟨b', o' + j * 7 + 3, none⟩ = some (.int .i64 od) ∧ W.cell? ⟨b', o' + j * 7 + 4, none⟩ = some (.int .i64 on) ∧ W.cell? ⟨b', o' + j * 7 + 5, none⟩ = some (.int .i64 om) ∧ W.cell? ⟨b', o' + j * 7 + 6, none⟩ = some (.int .i64 op))) := fun W hW => by
            have h1 := HBo9.out.rf.blk.after hW
            rw [HRa.out] at h1
            have h2 : RecsAt W (some ⟨b, o, none⟩) 7 encS H := RowsAt.after hHr hW
            have h3 : RecsAt W (some ⟨b', o', none⟩) 7 encR V := by rw [← HRa.out]; exact RowsAt.after HRR.out hW
            exact ⟨h1.cell 0 rfl, ⟨RecsAt.cell h2 rfl hnl hHx (j := 0) rfl, RecsAt.cell h2 rfl hnl hHx (j := 1) rfl, RecsAt.cell h2 rfl hnl hHx (j := 2) rfl, RecsAt.cell h2 rfl hnl hHx (j := 3) rfl, RecsAt.cell h2 rfl hnl hHx (j := 4) rfl, RecsAt.cell h2 rfl hnl hHx (j := 5) rfl, RecsAt.cell h2 rfl hnl hHx (j := 6) rfl⟩, RecsAt.cell h3 rfl hlt hXo (j := 0) rfl, RecsAt.cell h3 rfl hlt hXo (j := 1) rfl, RecsAt.cell h3 rfl hlt hXo (j := 2) rfl, RecsAt.cell h3 rfl hlt hXo (j := 3) rfl, RecsAt.cell h3 rfl hlt hXo (j := 4) rfl, RecsAt.cell h3 rfl hlt hXo (j := 5) rfl, RecsAt.cell h3 rfl hlt hXo (j := 6) rfl⟩
          have HPl : Hid (∀ W, Calls Try.prog 29 #[.agg #[.int .i64 os, .bool oc, .int .i64 ok, .int .i64 od, .int .i64 on, .int .i64 om, .int .i64 op]] W fun e w' => e = .returned (.agg #[.int .i64 os, .int .i64 (kindV oc), .int .i64 ok, .int .i64 od, .int .i64 on, .int .i64 om, .int .i64 op]) ∧ Below W.heap.size W w') := fun W => plain_ok12 ⟨os, oc, ok, od, on, om, op⟩ W
          have heq := fun w => arr_neq os (kindV oc) ok od on om op os (kindV oc) ok od on om op w
          rw [decide_eq_true rfl] at heq
          have i3 : (0 : Int) ≤ (n' : Int) := by omega
          have i4 : (n' : Int) < (H.length : Int) := by omega
          have i5 : decide ((H.length : Int) ≤ (n' : Int)) = false := decide_eq_false (by omega)
          have i6 : decide (H.length ≤ n') = false := decide_eq_false (by omega)
          clear hHx hXo hHr hoc hok hod hq2
          go_wp2_with (go_quiet (fail))
          have bd0 : Below w9.heap.size w9 ((wr.drewN nq).drew) := (HBq.out.trans ((below_draws _ nq).mono zq)).trans ((Below.refl _ _).drew.mono (by have := (below_draws (B := wr.heap.size) wr nq).size; omega))
          clear c0 r1 r2 r3 y0 y1 y2 y3 y4 y5 y6
          go_region_held3 (fun W => W.cell? ⟨rp, 0, none⟩ = some (.slice (some ⟨b', o', none⟩) V.length rc) ∧ (W.cell? ⟨b, o + n' * 7, none⟩ = some (.int .i64 os) ∧ W.cell? ⟨b, o + n' * 7 + 1, none⟩ = some (.bool oc) ∧ W.cell? ⟨b, o + n' * 7 + 2, none⟩ = some (.int .i64 ok) ∧ W.cell? ⟨b, o + n' * 7 + 3, none⟩ = some (.int .i64 od) ∧ W.cell? ⟨b, o + n' * 7 + 4, none⟩ = some (.int .i64 on) ∧ W.cell? ⟨b, o + n' * 7 + 5, none⟩ = some (.int .i64 om) ∧ W.cell? ⟨b, o + n' * 7 + 6, none⟩ = some (.int .i64 op)) ∧ W.cell? ⟨b', o' + j * 7, none⟩ = some (.int .i64 os) ∧ W.cell? ⟨b', o' + j * 7 + 1, none⟩ = some (.int .i64 (kindV oc)) ∧ W.cell? ⟨b', o' + j * 7 + 2, none⟩ = some (.int .i64 ok) ∧ W.cell? ⟨b', o' + j * 7 + 3, none⟩ = some (.int .i64 od) ∧ W.cell? ⟨b', o' + j * 7 + 4, none⟩ = some (.int .i64 on) ∧ W.cell? ⟨b', o' + j * 7 + 5, none⟩ = some (.int .i64 om) ∧ W.cell? ⟨b', o' + j * 7 + 6, none⟩ = some (.int .i64 op))
            (first | with_reducible exact HSS.out _ bd0 | with_reducible exact HSS.out _ bf)
            ((go_at_call 29; (with_reducible refine (HPl.out _).mono ?_); rintro e wf ⟨rfl, hbf⟩; have bf := bd0.trans (hbf.mono bd0.size)))
          have HBf := Lib.hid bf
          clear bf hbf bd0 HSS HPl heq i3 i4 i5 i6
          go_wp2_with fail
          go_roundw
          case rel => exact ⟨j + 1, n' + 1, by omega, by go_num, by go_num, HN1, HBf⟩
          case measure => simp [intOf]; omega
        · obtain rfl : j = V.length := by omega
          have hn' : n' = H.length := by rw [← HTk.out, List.take_length, HOf.out]
          subst hn'
          have kv := KV9.out.after HBq.out
          have y3 : wr.cell? ⟨w.heap.size, 3, none⟩ = some (.int .i64 yd) := kv.cell 3 rfl
          have c0 : wr.cell? ⟨rp, 0, none⟩ = some (.slice (ra) V.length rc) := (HBo9.out.rf.blk.after HBq.out).cell 0 rfl
          clear kv
          go_wp2_with fail
          go_loopw [19, 20] (fun m day wl => ∃ (mm : Nat) (dd : Int), m = .int .i64 mm ∧ day = .int .i64 dd ∧ yd ≤ dd ∧ dd ≤ 61 ∧ Hid (DayAt L mm dd ∧ ∀ x ∈ L.take mm, x.d < dd) ∧ Hid (Below w9.heap.size w9 wl)) (fun m day _ => (t + 1 - intOf day).toNat)
          case atStart => exact ⟨0, yd, rfl, rfl, Int.le_refl _, by omega, ⟨⟨Nat.zero_le _, fun x hx => ((HD.out.2 x).1 hx).1⟩, fun x hx => by simp at hx⟩, HBq.out⟩
          case round =>
            obtain ⟨mm, dd, rfl, rfl, hdd, hd61, HDy, HBl⟩ := hrel
            obtain ⟨wl, rfl⟩ : ∃ wl : World, wl = wr := ⟨_, rfl⟩
            have zl := HBl.out.size
            clear y3 c0
            have kv := KV9.out.after HBl.out
            have y0 : wl.cell? ⟨w.heap.size, 0, none⟩ = some (.int .i64 ys) := kv.cell 0 rfl
            have y2 : wl.cell? ⟨w.heap.size, 2, none⟩ = some (.int .i64 yk) := kv.cell 2 rfl
            clear kv
            have wd1 : IntKind.i64.wrap (dd + 1) = dd + 1 := IntWalk.i64_in _ (by omega)
            have hml := HDy.out.1.le
            by_cases hdt : dd ≤ t
            · have e1 : decide (dd ≤ t) = true := decide_eq_true hdt
              go_wp2_with fail
              with_reducible refine (rlat_ok N rp _ V yc yk dd ys wl (HBo9.out.rf.after HBl.out) (by omega)).mono ?_
              rintro e w10 ⟨i, rfl, hi, hb10⟩
              have hb9 := HBl.out.trans (hb10.mono zl)
              have HBm := Lib.hid hb9
              have HLa := Lib.hid (lat_at hi)
              clear hi hb10 hb9 y0 y2 e1
              rcases HLa.out with ⟨rfl, ho⟩ | ⟨n1, o, rfl, hn1, hno, ho⟩
              · have HDy2 : Hid (DayAt L mm (dd + 1) ∧ ∀ x ∈ L.take mm, x.d < dd + 1) := ⟨HDy.out.1.none HD.out ho, fun x hx => by have := HDy.out.2 x hx; omega⟩
                clear ho
                go_wp2_with fail
                go_roundw
                case rel => exact ⟨mm, dd + 1, rfl, by go_num, by omega, by omega, HDy2, HBm⟩
                case measure => simp [intOf]; omega
              · obtain ⟨hLm, hDa, hTa⟩ := DayAt.some HD.out HDy.out.2 HDy.out.1 hdd hdt ho
                have HDy2 : Hid (DayAt L (mm + 1) (dd + 1) ∧ ∀ x ∈ L.take (mm + 1), x.d < dd + 1) := ⟨hDa, hTa⟩
                have hml2 : mm < L.length := (List.getElem?_eq_some_iff.1 hLm).1
                obtain ⟨os, oc, ok, od, on, om, op⟩ := o
                have hLr := HL9.out
                have hR2 := HRR.out
                obtain ⟨b, o, rfl, _⟩ := hLr (by omega)
                obtain ⟨b', o', hra, _⟩ := hR2 (by omega)
                have HSS : Hid (∀ W, Below w9.heap.size w9 W → (W.cell? ⟨rp, 0, none⟩ = some (.slice (some ⟨b', o', none⟩) V.length rc) ∧ (W.cell? ⟨b, o + mm * 7, none⟩ = some (.int .i64 os) ∧ W.cell? ⟨b, o + mm * 7 + 1, none⟩ = some (.bool oc) ∧ W.cell? ⟨b, o + mm * 7 + 2, none⟩ = some (.int .i64 ok) ∧ W.cell? ⟨b, o + mm * 7 + 3, none⟩ = some (.int .i64 od) ∧ W.cell? ⟨b, o + mm * 7 + 4, none⟩ = some (.int .i64 on) ∧ W.cell? ⟨b, o + mm * 7 + 5, none⟩ = some (.int .i64 om) ∧ W.cell? ⟨b, o + mm * 7 + 6, none⟩ = some (.int .i64 op)) ∧ W.cell? ⟨b', o' + n1 * 7, none⟩ = some (.int .i64 os) ∧ W.cell? ⟨b', o' + n1 * 7 + 1, none⟩ = some (.int .i64 (kindV oc)) ∧ W.cell? ⟨b', o' + n1 * 7 + 2, none⟩ = some (.int .i64 ok) ∧ W.cell? ⟨b', o' + n1 * 7 + 3, none⟩ = some (.int .i64 od) ∧ W.cell? ⟨b', o' + n1 * 7 + 4, none⟩ = some (.int .i64 on) ∧ W.cell? ⟨b', o' + n1 * 7 + 5, none⟩ = some (.int .i64 om) ∧ W.cell? ⟨b', o' + n1 * 7 + 6, none⟩ = some (.int .i64 op))) := fun W hW => by
                  have h1 := HBo9.out.rf.blk.after hW
                  rw [hra] at h1
                  have h2 : RecsAt W (some ⟨b, o, none⟩) 7 encS L := RowsAt.after hLr hW
                  have h3 : RecsAt W (some ⟨b', o', none⟩) 7 encR V := by rw [← hra]; exact RowsAt.after HRR.out hW
                  exact ⟨h1.cell 0 rfl, ⟨RecsAt.cell h2 rfl hml2 hLm (j := 0) rfl, RecsAt.cell h2 rfl hml2 hLm (j := 1) rfl, RecsAt.cell h2 rfl hml2 hLm (j := 2) rfl, RecsAt.cell h2 rfl hml2 hLm (j := 3) rfl, RecsAt.cell h2 rfl hml2 hLm (j := 4) rfl, RecsAt.cell h2 rfl hml2 hLm (j := 5) rfl, RecsAt.cell h2 rfl hml2 hLm (j := 6) rfl⟩, RecsAt.cell h3 rfl hn1 hno (j := 0) rfl, RecsAt.cell h3 rfl hn1 hno (j := 1) rfl, RecsAt.cell h3 rfl hn1 hno (j := 2) rfl, RecsAt.cell h3 rfl hn1 hno (j := 3) rfl, RecsAt.cell h3 rfl hn1 hno (j := 4) rfl, RecsAt.cell h3 rfl hn1 hno (j := 5) rfl, RecsAt.cell h3 rfl hn1 hno (j := 6) rfl⟩
                have HPl : Hid (∀ W, Calls Try.prog 29 #[.agg #[.int .i64 os, .bool oc, .int .i64 ok, .int .i64 od, .int .i64 on, .int .i64 om, .int .i64 op]] W fun e w' => e = .returned (.agg #[.int .i64 os, .int .i64 (kindV oc), .int .i64 ok, .int .i64 od, .int .i64 on, .int .i64 om, .int .i64 op]) ∧ Below W.heap.size W w') := fun W => plain_ok12 ⟨os, oc, ok, od, on, om, op⟩ W
                have heq := fun w => arr_neq os (kindV oc) ok od on om op os (kindV oc) ok od on om op w
                rw [decide_eq_true rfl] at heq
                have i1 : (0 : Int) ≤ (n1 : Int) := by omega
                have i2 : (n1 : Int) < (V.length : Int) := by omega
                have i0 : decide ((0 : Int) ≤ (n1 : Int)) = true := decide_eq_true i1
                have i3 : (0 : Int) ≤ (mm : Int) := by omega
                have i4 : (mm : Int) < (L.length : Int) := by omega
                have i5 : decide ((L.length : Int) ≤ (mm : Int)) = false := decide_eq_false (by omega)
                have i6 : decide (L.length ≤ mm) = false := decide_eq_false (by omega)
                have bd0 : Below w9.heap.size w9 w10.drew := HBm.out.trans ((Below.refl _ _).drew.mono HBm.out.size)
                clear hLm hLr hR2 hra ho hno hDa hTa
                go_wp2_with fail
                go_region_held3 (fun W => W.cell? ⟨rp, 0, none⟩ = some (.slice (some ⟨b', o', none⟩) V.length rc) ∧ (W.cell? ⟨b, o + mm * 7, none⟩ = some (.int .i64 os) ∧ W.cell? ⟨b, o + mm * 7 + 1, none⟩ = some (.bool oc) ∧ W.cell? ⟨b, o + mm * 7 + 2, none⟩ = some (.int .i64 ok) ∧ W.cell? ⟨b, o + mm * 7 + 3, none⟩ = some (.int .i64 od) ∧ W.cell? ⟨b, o + mm * 7 + 4, none⟩ = some (.int .i64 on) ∧ W.cell? ⟨b, o + mm * 7 + 5, none⟩ = some (.int .i64 om) ∧ W.cell? ⟨b, o + mm * 7 + 6, none⟩ = some (.int .i64 op)) ∧ W.cell? ⟨b', o' + n1 * 7, none⟩ = some (.int .i64 os) ∧ W.cell? ⟨b', o' + n1 * 7 + 1, none⟩ = some (.int .i64 (kindV oc)) ∧ W.cell? ⟨b', o' + n1 * 7 + 2, none⟩ = some (.int .i64 ok) ∧ W.cell? ⟨b', o' + n1 * 7 + 3, none⟩ = some (.int .i64 od) ∧ W.cell? ⟨b', o' + n1 * 7 + 4, none⟩ = some (.int .i64 on) ∧ W.cell? ⟨b', o' + n1 * 7 + 5, none⟩ = some (.int .i64 om) ∧ W.cell? ⟨b', o' + n1 * 7 + 6, none⟩ = some (.int .i64 op))
                  (first | with_reducible exact HSS.out _ bd0 | with_reducible exact HSS.out _ bf)
                  ((go_at_call 29; (with_reducible refine (HPl.out _).mono ?_); rintro e wf ⟨rfl, hbf⟩; have bf := bd0.trans (hbf.mono bd0.size)))
                have HBf := Lib.hid bf
                clear bf hbf bd0 HSS HPl heq i3 i4 i5 i6 i0
                go_wp2_with fail
                go_roundw
                case rel => exact ⟨mm + 1, dd + 1, by go_num, by go_num, by omega, by omega, HDy2, HBf⟩
                case measure => simp [intOf]; omega
            · have e1 : decide (dd ≤ t) = false := decide_eq_false hdt
              obtain rfl : mm = L.length := DayAt.fin HD.out HDy.out.1 (by omega)
              go_wp2_with fail
              with_reducible refine (awake_ok12 _).mono ?_
              rintro e w99 ⟨rfl, hb99⟩
              go_wp2_with fail
              go_ret
              exact ⟨rfl, HB9.out.trans ((HBl.out.trans (hb99.mono zl)).mono HB9.out.size)⟩
    · obtain ⟨os, oc, ok, od, on, om, op⟩ := o
      rw [ho, latV_some]
      obtain ⟨w4, hww4⟩ : ∃ W, w3.alloc (.cells #[.int .i64 os, .bool oc, .int .i64 ok, .int .i64 od, .int .i64 on, .int .i64 om, .int .i64 op] 26) = W := ⟨_, rfl⟩
      have hbw4 : Below w3.heap.size w3 w4 := by rw [← hww4]; exact (Below.refl _ _).alloc (Nat.le_refl _) _
      have hkw4 : Hid (Blk w4 w3.heap.size #[.int .i64 os, .bool oc, .int .i64 ok, .int .i64 od, .int .i64 on, .int .i64 om, .int .i64 op] 26) := by rw [← hww4]; exact Blk.new _ _ _
      have hzw4 := hbw4.size
      have HW4 := Lib.hid hww4
      have HB4 := Lib.hid hbw4
      have hRf := (HBo3.out.after hbw4).rf
      have hRR := hRf.recs
      obtain ⟨b', o', rfl, _⟩ := hRR (by omega)
      have HSS : Hid (∀ W, Below w4.heap.size w4 W → (W.cell? ⟨rp, 0, none⟩ = some (.slice (some ⟨b', o', none⟩) V.length rc) ∧ (W.cell? ⟨w3.heap.size, 0, none⟩ = some (.int .i64 os) ∧ W.cell? ⟨w3.heap.size, 1, none⟩ = some (.bool oc) ∧ W.cell? ⟨w3.heap.size, 2, none⟩ = some (.int .i64 ok) ∧ W.cell? ⟨w3.heap.size, 3, none⟩ = some (.int .i64 od) ∧ W.cell? ⟨w3.heap.size, 4, none⟩ = some (.int .i64 on) ∧ W.cell? ⟨w3.heap.size, 5, none⟩ = some (.int .i64 om) ∧ W.cell? ⟨w3.heap.size, 6, none⟩ = some (.int .i64 op)) ∧ W.cell? ⟨b', o' + n * 7, none⟩ = some (.int .i64 os) ∧ W.cell? ⟨b', o' + n * 7 + 1, none⟩ = some (.int .i64 (kindV oc)) ∧ W.cell? ⟨b', o' + n * 7 + 2, none⟩ = some (.int .i64 ok) ∧ W.cell? ⟨b', o' + n * 7 + 3, none⟩ = some (.int .i64 od) ∧ W.cell? ⟨b', o' + n * 7 + 4, none⟩ = some (.int .i64 on) ∧ W.cell? ⟨b', o' + n * 7 + 5, none⟩ = some (.int .i64 om) ∧ W.cell? ⟨b', o' + n * 7 + 6, none⟩ = some (.int .i64 op))) := fun W hW => by
        have h1 := hRf.blk.after hW
        have h2 := hkw4.out.after hW
        have h3 : RecsAt W (some ⟨b', o', none⟩) 7 encR V := RowsAt.after hRR hW
        exact ⟨h1.cell 0 rfl, ⟨h2.cell 0 rfl, h2.cell 1 rfl, h2.cell 2 rfl, h2.cell 3 rfl, h2.cell 4 rfl, h2.cell 5 rfl, h2.cell 6 rfl⟩, RecsAt.cell h3 rfl hn hno (j := 0) rfl, RecsAt.cell h3 rfl hn hno (j := 1) rfl, RecsAt.cell h3 rfl hn hno (j := 2) rfl, RecsAt.cell h3 rfl hn hno (j := 3) rfl, RecsAt.cell h3 rfl hn hno (j := 4) rfl, RecsAt.cell h3 rfl hn hno (j := 5) rfl, RecsAt.cell h3 rfl hn hno (j := 6) rfl⟩
      have HPl : Hid (∀ W, Calls Try.prog 29 #[.agg #[.int .i64 os, .bool oc, .int .i64 ok, .int .i64 od, .int .i64 on, .int .i64 om, .int .i64 op]] W fun e w' => e = .returned (.agg #[.int .i64 os, .int .i64 (kindV oc), .int .i64 ok, .int .i64 od, .int .i64 on, .int .i64 om, .int .i64 op]) ∧ Below W.heap.size W w') := fun W => plain_ok12 ⟨os, oc, ok, od, on, om, op⟩ W
      have heq := fun w => arr_neq os (kindV oc) ok od on om op os (kindV oc) ok od on om op w
      rw [decide_eq_true rfl] at heq
      have i1 : (0 : Int) ≤ (n : Int) := by omega
      have i2 : (n : Int) < (V.length : Int) := by omega
      have i3 : decide ((0 : Int) ≤ (n : Int)) = true := decide_eq_true i1
      clear hww4 hbw4 hkw4 hRf hRR hn hno ho
      go_wp2_with fail
      rw [HW4.out]
      have bd : Below w4.heap.size w4 w4.drew := (Below.refl _ _).drew
      refine hL_start (fun W => W.cell? ⟨rp, 0, none⟩ = some (.slice (some ⟨b', o', none⟩) V.length rc) ∧ (W.cell? ⟨w3.heap.size, 0, none⟩ = some (.int .i64 os) ∧ W.cell? ⟨w3.heap.size, 1, none⟩ = some (.bool oc) ∧ W.cell? ⟨w3.heap.size, 2, none⟩ = some (.int .i64 ok) ∧ W.cell? ⟨w3.heap.size, 3, none⟩ = some (.int .i64 od) ∧ W.cell? ⟨w3.heap.size, 4, none⟩ = some (.int .i64 on) ∧ W.cell? ⟨w3.heap.size, 5, none⟩ = some (.int .i64 om) ∧ W.cell? ⟨w3.heap.size, 6, none⟩ = some (.int .i64 op)) ∧ W.cell? ⟨b', o' + n * 7, none⟩ = some (.int .i64 os) ∧ W.cell? ⟨b', o' + n * 7 + 1, none⟩ = some (.int .i64 (kindV oc)) ∧ W.cell? ⟨b', o' + n * 7 + 2, none⟩ = some (.int .i64 ok) ∧ W.cell? ⟨b', o' + n * 7 + 3, none⟩ = some (.int .i64 od) ∧ W.cell? ⟨b', o' + n * 7 + 4, none⟩ = some (.int .i64 on) ∧ W.cell? ⟨b', o' + n * 7 + 5, none⟩ = some (.int .i64 om) ∧ W.cell? ⟨b', o' + n * 7 + 6, none⟩ = some (.int .i64 op)) (by kernel_rfl) ?_
      have hSd := HSS.out _ bd
      obtain ⟨wd, hwd⟩ : ∃ W, w4.drew = W := ⟨_, rfl⟩
      rw [hwd] at bd hSd ⊢
      clear hwd
      refine hL_take (i := 0) (v := ?_) rfl (by kernel_rfl) (fun _ _ _ h => h) (by rfl) hSd ?_ ?_
      rotate_left 1
      · intro wS hSw
        obtain ⟨s0, ⟨s1, s2, s3, s4, s5, s6, s7⟩, r0, r1, r2, r3, r4, r5, r6⟩ := hSw
        go_simp
        try with_reducible rfl
      try simp only [Act.put, List.setIfInBounds_toArray, List.set_cons_zero, List.set_cons_succ]
      refine hL_take (i := 1) (v := ?_) rfl (by kernel_rfl) (fun _ _ _ h => h) (by rfl) hSd ?_ ?_
      rotate_left 1
      · intro wS hSw
        obtain ⟨s0, ⟨s1, s2, s3, s4, s5, s6, s7⟩, r0, r1, r2, r3, r4, r5, r6⟩ := hSw
        go_simp
        try with_reducible rfl
      try simp only [Act.put, List.setIfInBounds_toArray, List.set_cons_zero, List.set_cons_succ]
      refine hL_take (i := 2) (v := ?_) rfl (by kernel_rfl) (fun _ _ _ h => h) (by rfl) hSd ?_ ?_
      rotate_left 1
      · intro wS hSw
        obtain ⟨s0, ⟨s1, s2, s3, s4, s5, s6, s7⟩, r0, r1, r2, r3, r4, r5, r6⟩ := hSw
        go_simp
        try with_reducible rfl
      try simp only [Act.put, List.setIfInBounds_toArray, List.set_cons_zero, List.set_cons_succ]
      refine hL_take (i := 3) (v := ?_) rfl (by kernel_rfl) (fun _ _ _ h => h) (by rfl) hSd ?_ ?_
      rotate_left 1
      · intro wS hSw
        obtain ⟨s0, ⟨s1, s2, s3, s4, s5, s6, s7⟩, r0, r1, r2, r3, r4, r5, r6⟩ := hSw
        go_simp
        try with_reducible rfl
      try simp only [Act.put, List.setIfInBounds_toArray, List.set_cons_zero, List.set_cons_succ]
      refine hL_take (i := 4) (v := ?_) rfl (by kernel_rfl) (fun _ _ _ h => h) (by rfl) hSd ?_ ?_
      rotate_left 1
      · intro wS hSw
        obtain ⟨s0, ⟨s1, s2, s3, s4, s5, s6, s7⟩, r0, r1, r2, r3, r4, r5, r6⟩ := hSw
        go_simp
        try with_reducible rfl
      try simp only [Act.put, List.setIfInBounds_toArray, List.set_cons_zero, List.set_cons_succ]
      refine hL_take (i := 5) (v := ?_) rfl (by kernel_rfl) (fun _ _ _ h => h) (by rfl) hSd ?_ ?_
      rotate_left 1
      · intro wS hSw
        obtain ⟨s0, ⟨s1, s2, s3, s4, s5, s6, s7⟩, r0, r1, r2, r3, r4, r5, r6⟩ := hSw
        go_simp
        try with_reducible rfl
      try simp only [Act.put, List.setIfInBounds_toArray, List.set_cons_zero, List.set_cons_succ]
      refine hL_take (i := 6) (v := ?_) rfl (by kernel_rfl) (fun _ _ _ h => h) (by rfl) hSd ?_ ?_
      rotate_left 1
      · intro wS hSw
        obtain ⟨s0, ⟨s1, s2, s3, s4, s5, s6, s7⟩, r0, r1, r2, r3, r4, r5, r6⟩ := hSw
        go_simp
        try with_reducible rfl
      try simp only [Act.put, List.setIfInBounds_toArray, List.set_cons_zero, List.set_cons_succ]
      refine hL_take (i := 7) (v := ?_) rfl (by kernel_rfl) (fun _ _ _ h => h) (by rfl) hSd ?_ ?_
      rotate_left 1
      · intro wS hSw
        obtain ⟨s0, ⟨s1, s2, s3, s4, s5, s6, s7⟩, r0, r1, r2, r3, r4, r5, r6⟩ := hSw
        go_simp
        try with_reducible rfl
      try simp only [Act.put, List.setIfInBounds_toArray, List.set_cons_zero, List.set_cons_succ]
      refine hL_take (i := 9) (v := ?_) rfl (by kernel_rfl) (fun _ _ _ h => h) (by rfl) hSd ?_ ?_
      rotate_left 1
      · intro wS hSw
        obtain ⟨s0, ⟨s1, s2, s3, s4, s5, s6, s7⟩, r0, r1, r2, r3, r4, r5, r6⟩ := hSw
        go_simp
        try with_reducible rfl
      try simp only [Act.put, List.setIfInBounds_toArray, List.set_cons_zero, List.set_cons_succ]
      refine hL_take (i := 10) (v := ?_) rfl (by kernel_rfl) (fun _ _ _ h => h) (by rfl) hSd ?_ ?_
      rotate_left 1
      · intro wS hSw
        obtain ⟨s0, ⟨s1, s2, s3, s4, s5, s6, s7⟩, r0, r1, r2, r3, r4, r5, r6⟩ := hSw
        go_simp
        try with_reducible rfl
      try simp only [Act.put, List.setIfInBounds_toArray, List.set_cons_zero, List.set_cons_succ]
      refine hL_take (i := 11) (v := ?_) rfl (by kernel_rfl) (fun _ _ _ h => h) (by rfl) hSd ?_ ?_
      rotate_left 1
      · intro wS hSw
        obtain ⟨s0, ⟨s1, s2, s3, s4, s5, s6, s7⟩, r0, r1, r2, r3, r4, r5, r6⟩ := hSw
        go_simp
        try with_reducible rfl
      try simp only [Act.put, List.setIfInBounds_toArray, List.set_cons_zero, List.set_cons_succ]
      refine hL_take (i := 12) (v := ?_) rfl (by kernel_rfl) (fun _ _ _ h => h) (by rfl) hSd ?_ ?_
      rotate_left 1
      · intro wS hSw
        obtain ⟨s0, ⟨s1, s2, s3, s4, s5, s6, s7⟩, r0, r1, r2, r3, r4, r5, r6⟩ := hSw
        go_simp
        try with_reducible rfl
      try simp only [Act.put, List.setIfInBounds_toArray, List.set_cons_zero, List.set_cons_succ]
      refine hL_take (i := 13) (v := ?_) rfl (by kernel_rfl) (fun _ _ _ h => h) (by rfl) hSd ?_ ?_
      rotate_left 1
      · intro wS hSw
        obtain ⟨s0, ⟨s1, s2, s3, s4, s5, s6, s7⟩, r0, r1, r2, r3, r4, r5, r6⟩ := hSw
        go_simp
        try with_reducible rfl
      try simp only [Act.put, List.setIfInBounds_toArray, List.set_cons_zero, List.set_cons_succ]
      refine hL_take (i := 14) (v := ?_) rfl (by kernel_rfl) (fun _ _ _ h => h) (by rfl) hSd ?_ ?_
      rotate_left 1
      · intro wS hSw
        obtain ⟨s0, ⟨s1, s2, s3, s4, s5, s6, s7⟩, r0, r1, r2, r3, r4, r5, r6⟩ := hSw
        go_simp
        try with_reducible rfl
      try simp only [Act.put, List.setIfInBounds_toArray, List.set_cons_zero, List.set_cons_succ]
      refine hL_take (i := 15) (v := ?_) rfl (by kernel_rfl) (fun _ _ _ h => h) (by rfl) hSd ?_ ?_
      rotate_left 1
      · intro wS hSw
        obtain ⟨s0, ⟨s1, s2, s3, s4, s5, s6, s7⟩, r0, r1, r2, r3, r4, r5, r6⟩ := hSw
        go_simp
        try with_reducible rfl
      try simp only [Act.put, List.setIfInBounds_toArray, List.set_cons_zero, List.set_cons_succ]
      refine hL_next (i := 8) rfl (by kernel_rfl) (fun K hK => ?_)
      go_simp
      with_reducible refine (HPl.out _).mono ?_
      rintro e wf ⟨rfl, hbf⟩
      have bf := bd.trans (hbf.mono bd.size)
      have hSf := HSS.out _ bf
      refine hK.out _ _ (hSf) ?_
      clear hK K
      try simp only [Act.put, List.setIfInBounds_toArray, List.set_cons_zero, List.set_cons_succ]
      refine hL_take (i := 16) (v := ?_) rfl (by kernel_rfl) (fun _ _ _ h => h) (by rfl) hSf ?_ ?_
      rotate_left 1
      · intro wS hSw
        obtain ⟨s0, ⟨s1, s2, s3, s4, s5, s6, s7⟩, r0, r1, r2, r3, r4, r5, r6⟩ := hSw
        go_simp
        try with_reducible rfl
      try simp only [Act.put, List.setIfInBounds_toArray, List.set_cons_zero, List.set_cons_succ]
      refine hL_take (i := 17) (v := ?_) rfl (by kernel_rfl) (fun _ _ _ h => h) (by rfl) hSf ?_ ?_
      rotate_left 1
      · intro wS hSw
        obtain ⟨s0, ⟨s1, s2, s3, s4, s5, s6, s7⟩, r0, r1, r2, r3, r4, r5, r6⟩ := hSw
        go_simp
        try with_reducible rfl
      try simp only [Act.put, List.setIfInBounds_toArray, List.set_cons_zero, List.set_cons_succ]
      refine hL_take (i := 18) (v := ?_) rfl (by kernel_rfl) (fun _ _ _ h => h) (by rfl) hSf ?_ ?_
      rotate_left 1
      · intro wS hSw
        obtain ⟨s0, ⟨s1, s2, s3, s4, s5, s6, s7⟩, r0, r1, r2, r3, r4, r5, r6⟩ := hSw
        go_simp
        try with_reducible rfl
      try simp only [Act.put, List.setIfInBounds_toArray, List.set_cons_zero, List.set_cons_succ]
      refine hL_take (i := 19) (v := ?_) rfl (by kernel_rfl) (fun _ _ _ h => h) (by rfl) hSf ?_ ?_
      rotate_left 1
      · intro wS hSw
        obtain ⟨s0, ⟨s1, s2, s3, s4, s5, s6, s7⟩, r0, r1, r2, r3, r4, r5, r6⟩ := hSw
        go_simp
        try with_reducible rfl
      try simp only [Act.put, List.setIfInBounds_toArray, List.set_cons_zero, List.set_cons_succ]
      refine hL_take (i := 20) (v := ?_) rfl (by kernel_rfl) (fun _ _ _ h => h) (by rfl) hSf ?_ ?_
      rotate_left 1
      · intro wS hSw
        obtain ⟨s0, ⟨s1, s2, s3, s4, s5, s6, s7⟩, r0, r1, r2, r3, r4, r5, r6⟩ := hSw
        go_simp
        try with_reducible rfl
      try simp only [Act.put, List.setIfInBounds_toArray, List.set_cons_zero, List.set_cons_succ]
      refine hL_take (i := 21) (v := ?_) rfl (by kernel_rfl) (fun _ _ _ h => h) (by rfl) hSf ?_ ?_
      rotate_left 1
      · intro wS hSw
        obtain ⟨s0, ⟨s1, s2, s3, s4, s5, s6, s7⟩, r0, r1, r2, r3, r4, r5, r6⟩ := hSw
        go_simp
        try with_reducible rfl
      try simp only [Act.put, List.setIfInBounds_toArray, List.set_cons_zero, List.set_cons_succ]
      refine hL_take (i := 22) (v := ?_) rfl (by kernel_rfl) (fun _ _ _ h => h) (by rfl) hSf ?_ ?_
      rotate_left 1
      · intro wS hSw
        obtain ⟨s0, ⟨s1, s2, s3, s4, s5, s6, s7⟩, r0, r1, r2, r3, r4, r5, r6⟩ := hSw
        go_simp
        try with_reducible rfl
      try simp only [Act.put, List.setIfInBounds_toArray, List.set_cons_zero, List.set_cons_succ]
      refine hL_skip (i := 23) rfl (by kernel_rfl) (fun _ _ _ h => h) (by rfl) hSf ?_
      try simp only [Act.put, List.setIfInBounds_toArray, List.set_cons_zero, List.set_cons_succ]
      refine hL_skip (i := 24) rfl (by kernel_rfl) (fun _ _ _ h => h) (by rfl) hSf ?_
      try simp only [Act.put, List.setIfInBounds_toArray, List.set_cons_zero, List.set_cons_succ]
      refine hL_skip (i := 25) rfl (by kernel_rfl) (fun _ _ _ h => h) (by rfl) hSf ?_
      try simp only [Act.put, List.setIfInBounds_toArray, List.set_cons_zero, List.set_cons_succ]
      refine hL_take (i := 26) (v := ?_) rfl (by kernel_rfl) (fun _ _ _ h => h) (by rfl) hSf ?_ ?_
      rotate_left 1
      · intro wS hSw
        obtain ⟨s0, ⟨s1, s2, s3, s4, s5, s6, s7⟩, r0, r1, r2, r3, r4, r5, r6⟩ := hSw
        go_simp
        try with_reducible rfl
      try simp only [Act.put, List.setIfInBounds_toArray, List.set_cons_zero, List.set_cons_succ]
      refine hL_take (i := 27) (v := ?_) rfl (by kernel_rfl) (fun _ _ _ h => h) (by rfl) hSf ?_ ?_
      rotate_left 1
      · intro wS hSw
        obtain ⟨s0, ⟨s1, s2, s3, s4, s5, s6, s7⟩, r0, r1, r2, r3, r4, r5, r6⟩ := hSw
        go_simp
        try with_reducible rfl
      try simp only [Act.put, List.setIfInBounds_toArray, List.set_cons_zero, List.set_cons_succ]
      refine wpAnyH_done (by kernel_rfl) ?_ _
      have hbq := HB4.out.trans (bf.mono HB4.out.size)
      obtain ⟨w5, hw5⟩ : ∃ W, wf = W := ⟨_, rfl⟩
      rw [hw5] at hbq ⊢
      clear hSd hSf bd bf hbf hw5 HSS HPl heq i1 i2 i3 HW4 HB4
      have kv5 := KV3.out.after hbq
      have y0 : w5.cell? ⟨w.heap.size, 0, none⟩ = some (.int .i64 ys) := (kv5).cell 0 rfl
      have y1 : w5.cell? ⟨w.heap.size, 1, none⟩ = some (.bool yc) := (kv5).cell 1 rfl
      have y2 : w5.cell? ⟨w.heap.size, 2, none⟩ = some (.int .i64 yk) := (kv5).cell 2 rfl
      have y3 : w5.cell? ⟨w.heap.size, 3, none⟩ = some (.int .i64 yd) := (kv5).cell 3 rfl
      have y4 : w5.cell? ⟨w.heap.size, 4, none⟩ = some (.int .i64 yn) := (kv5).cell 4 rfl
      have y5 : w5.cell? ⟨w.heap.size, 5, none⟩ = some (.int .i64 ym) := (kv5).cell 5 rfl
      have y6 : w5.cell? ⟨w.heap.size, 6, none⟩ = some (.int .i64 yp) := (kv5).cell 6 rfl
      clear kv5
      go_wp2_with fail
      clear y0 y1 y2 y3 y4 y5 y6
      have HBo5 := Lib.hid (HBo3.out.after hbq)
      have KV5 := Lib.hid (KV3.out.after hbq)
      have HB5 := Lib.hid (HB3.out.trans (hbq.mono HB3.out.size))
      clear hbq HBo HBo2 HBo3 KV0 KV1 KV2 KV3 HB0 HB1 HB2 HB3
      with_reducible refine (bhist_ok N p bm sv V yc yk yd w5 HBo5.out.st (by omega)).mono ?_
      rintro e w6 ⟨Bs, rfl, hq6, hb6, _⟩
      have HQ6 := Lib.hid hq6
      have HBo6 := Lib.hid (HBo5.out.after hb6)
      have KV6 := Lib.hid (KV5.out.after hb6)
      have HB6 := Lib.hid (HB5.out.trans (hb6.mono HB5.out.size))
      clear hq6 hb6
      go_wp2_with fail
      have hof : (ofP V (yc, yk, yd)).length ≤ V.length := ofP_len V (yc, yk, yd)
      with_reducible refine (list_ok Bs (ofP V (yc, yk, yd)) w6 HQ6.out (by omega)).mono ?_
      rintro e w7 ⟨ha, hc, rfl, hrec, hb7⟩
      have HH7 := Lib.hid hrec
      have HBo7 := Lib.hid (HBo6.out.after hb7)
      have KV7 := Lib.hid (KV6.out.after hb7)
      have HB7 := Lib.hid (HB6.out.trans (hb7.mono HB6.out.size))
      clear hrec hb7
      have y0 : w7.cell? ⟨w.heap.size, 0, none⟩ = some (.int .i64 ys) := (KV7.out).cell 0 rfl
      have y1 : w7.cell? ⟨w.heap.size, 1, none⟩ = some (.bool yc) := (KV7.out).cell 1 rfl
      have y2 : w7.cell? ⟨w.heap.size, 2, none⟩ = some (.int .i64 yk) := (KV7.out).cell 2 rfl
      have y3 : w7.cell? ⟨w.heap.size, 3, none⟩ = some (.int .i64 yd) := (KV7.out).cell 3 rfl
      have y4 : w7.cell? ⟨w.heap.size, 4, none⟩ = some (.int .i64 yn) := (KV7.out).cell 4 rfl
      have y5 : w7.cell? ⟨w.heap.size, 5, none⟩ = some (.int .i64 ym) := (KV7.out).cell 5 rfl
      have y6 : w7.cell? ⟨w.heap.size, 6, none⟩ = some (.int .i64 yp) := (KV7.out).cell 6 rfl
      go_wp2_with fail
      with_reducible refine (days_ok N p bm sv V yc yk yd t ys w7 HBo7.out.st (by omega)).mono ?_
      rintro e w8 ⟨L, hD, Bd, rfl, hq8, hb8, _⟩
      have HQ8 := Lib.hid hq8
      have HD := Lib.hid hD
      have hLl : L.length ≤ 200 := by
        have := days_few hD.1 (fun x hx => ⟨((hD.2 x).1 hx).1, ((hD.2 x).1 hx).2.1⟩)
        have := HBad.out
        omega
      have HH8 : Hid (RecsAt w8 ha 7 encS (ofP V (yc, yk, yd))) := RowsAt.after HH7.out hb8
      have HBo8 := Lib.hid (HBo7.out.after hb8)
      have KV8 := Lib.hid (KV7.out.after hb8)
      have HB8 := Lib.hid (HB7.out.trans (hb8.mono HB7.out.size))
      clear hq8 hb8 hD y0 y1 y2 y3 y4 y5 y6
      go_wp2_with fail
      with_reducible refine (list_ok Bd L w8 HQ8.out hLl).mono ?_
      rintro e w9 ⟨da, dc, rfl, hrecd, hb9⟩
      have HL9 := Lib.hid hrecd
      have HH9 : Hid (RecsAt w9 ha 7 encS (ofP V (yc, yk, yd))) := RowsAt.after HH8.out hb9
      have HBo9 := Lib.hid (HBo8.out.after hb9)
      have KV9 := Lib.hid (KV8.out.after hb9)
      have HB9 := Lib.hid (HB8.out.trans (hb9.mono HB8.out.size))
      clear hrecd hb9
      have hRR := HBo9.out.rf.recs
      have HRR := Lib.hid hRR
      obtain ⟨q, hq⟩ : ∃ q, (yc, yk, yd) = q := ⟨_, rfl⟩
      have HQ := Lib.hid hq
      obtain ⟨H, hH⟩ : ∃ H, ofP V (yc, yk, yd) = H := ⟨_, rfl⟩
      have HOf : Hid (ofP V q = H) := by rw [← hq]; exact hH
      rw [hH] at HH9 hof ⊢
      have hbad := HBad.out
      clear hRR hq hH HQ6 HQ8 HH7 HH8 HBo5 HBo6 HBo7 HBo8 KV5 KV6 KV7 KV8 HB5 HB6 HB7 HB8 HBad
      go_wp2_with fail
      go_loopw [17, 18] (fun n i wr => ∃ j n' : Nat, j ≤ V.length ∧ i = .int .i64 j ∧ n = .int .i64 n' ∧ Hid ((ofP (V.take j) q).length = n') ∧ Hid (Below w9.heap.size w9 wr)) (fun n i _ => V.length - (intOf i).toNat)
      case atStart => exact ⟨0, 0, by omega, rfl, rfl, by show _ = _; simp [ofP], Below.refl _ _⟩
      case round =>
        obtain ⟨j, n', hj, rfl, rfl, HTk, HBq⟩ := hrel
        have zq := HBq.out.size
        by_cases hlt : j < V.length
        · have hx := List.getElem?_eq_getElem hlt
          obtain ⟨x, hx'⟩ : ∃ x, V[j] = x := ⟨_, rfl⟩
          rw [hx'] at hx
          have hR2 := HRR.out
          obtain ⟨b', o', hra, _⟩ := hR2 (by omega)
          have hR3 : RecsAt wr (some ⟨b', o', none⟩) 7 encR V := by rw [← hra]; exact RowsAt.after hR2 HBq.out
          have HX := Lib.hid hx
          obtain ⟨os, oc, ok, od, on, om, op⟩ := x
          have c0 : wr.cell? ⟨rp, 0, none⟩ = some (.slice (some ⟨b', o', none⟩) V.length rc) := by rw [← hra]; exact (HBo9.out.rf.blk.after HBq.out).cell 0 rfl
          have r1 : wr.cell? ⟨b', o' + j * 7 + 1, none⟩ = some (.int .i64 (kindV oc)) := RecsAt.cell hR3 rfl hlt hx (j := 1) rfl
          have r2 : wr.cell? ⟨b', o' + j * 7 + 2, none⟩ = some (.int .i64 ok) := RecsAt.cell hR3 rfl hlt hx (j := 2) rfl
          have r3 : wr.cell? ⟨b', o' + j * 7 + 3, none⟩ = some (.int .i64 od) := RecsAt.cell hR3 rfl hlt hx (j := 3) rfl
          have kv := KV9.out.after HBq.out
          have y0 : wr.cell? ⟨w.heap.size, 0, none⟩ = some (.int .i64 ys) := (kv).cell 0 rfl
          have y1 : wr.cell? ⟨w.heap.size, 1, none⟩ = some (.bool yc) := (kv).cell 1 rfl
          have y2 : wr.cell? ⟨w.heap.size, 2, none⟩ = some (.int .i64 yk) := (kv).cell 2 rfl
          have y3 : wr.cell? ⟨w.heap.size, 3, none⟩ = some (.int .i64 yd) := (kv).cell 3 rfl
          have y4 : wr.cell? ⟨w.heap.size, 4, none⟩ = some (.int .i64 yn) := (kv).cell 4 rfl
          have y5 : wr.cell? ⟨w.heap.size, 5, none⟩ = some (.int .i64 ym) := (kv).cell 5 rfl
          have y6 : wr.cell? ⟨w.heap.size, 6, none⟩ = some (.int .i64 yp) := (kv).cell 6 rfl
          have i1 : (0 : Int) ≤ (j : Int) := by omega
          have i2 : (j : Int) < (V.length : Int) := by omega
          have HRa := Lib.hid hra
          clear hx hx' hR2 hR3 kv hra
          by_cases h1 : yc = oc
          case neg =>
            have e1 : (kindV oc == kindV yc) = false := by rw [beq_eq_false_iff_ne]; exact fun e => h1 (kindV_inj e).symm
            have HN0 : Hid ((ofP (V.take (j + 1)) q).length = n') := by show _ = _; rw [ofP_take HX.out, if_neg (fun e => h1 (by rw [← HQ.out] at e; simp [Vs.pl] at e; exact e.1.symm))]; exact HTk.out
            clear h1
            go_wp2_with (go_quiet (fail))
            have hbd : Below w9.heap.size w9 (wr.drewN nq) := HBq.out.trans ((below_draws _ nq).mono zq)
            have HBd := Lib.hid hbd
            clear hbd
            go_wp2_with fail
            go_roundw
            case rel => exact ⟨j + 1, n', by omega, by go_num, rfl, HN0, HBd⟩
            case measure => simp [intOf]; omega
          subst h1
          by_cases h2 : yk = ok
          case neg =>
            have e1 : (ok == yk) = false := by rw [beq_eq_false_iff_ne]; exact fun e => h2 e.symm
            have HN0 : Hid ((ofP (V.take (j + 1)) q).length = n') := by show _ = _; rw [ofP_take HX.out, if_neg (fun e => h2 (by rw [← HQ.out] at e; simp [Vs.pl] at e; exact e.1.symm))]; exact HTk.out
            clear h2
            go_wp2_with (go_quiet (fail))
            have hbd : Below w9.heap.size w9 (wr.drewN nq) := HBq.out.trans ((below_draws _ nq).mono zq)
            have HBd := Lib.hid hbd
            clear hbd
            go_wp2_with fail
            go_roundw
            case rel => exact ⟨j + 1, n', by omega, by go_num, rfl, HN0, HBd⟩
            case measure => simp [intOf]; omega
          subst h2
          by_cases h3 : yd = od
          case neg =>
            have e1 : (od == yd) = false := by rw [beq_eq_false_iff_ne]; exact fun e => h3 e.symm
            have HN0 : Hid ((ofP (V.take (j + 1)) q).length = n') := by show _ = _; rw [ofP_take HX.out, if_neg (fun e => h3 (by rw [← HQ.out] at e; simp [Vs.pl] at e; exact e.symm))]; exact HTk.out
            clear h3
            go_wp2_with (go_quiet (fail))
            have hbd : Below w9.heap.size w9 (wr.drewN nq) := HBq.out.trans ((below_draws _ nq).mono zq)
            have HBd := Lib.hid hbd
            clear hbd
            go_wp2_with fail
            go_roundw
            case rel => exact ⟨j + 1, n', by omega, by go_num, rfl, HN0, HBd⟩
            case measure => simp [intOf]; omega
          subst h3
          have hq2 : (⟨os, yc, yk, yd, on, om, op⟩ : Vs).pl = q := HQ.out
          have HN1 : Hid ((ofP (V.take (j + 1)) q).length = n' + 1) := by show _ = _; rw [ofP_take HX.out, if_pos hq2, List.length_append, HTk.out]; rfl
          have hHx : H[n']? = some ⟨os, yc, yk, yd, on, om, op⟩ := by rw [← HOf.out, ← HTk.out]; exact ofP_at HX.out hq2
          have hnl : n' < H.length := (List.getElem?_eq_some_iff.1 hHx).1
          have hHr := HH9.out
          obtain ⟨b, o, rfl, _⟩ := hHr (by omega)
          obtain ⟨oc, hoc⟩ : ∃ oc, yc = oc := ⟨_, rfl⟩
          obtain ⟨ok, hok⟩ : ∃ ok, yk = ok := ⟨_, rfl⟩
          obtain ⟨od, hod⟩ : ∃ od, yd = od := ⟨_, rfl⟩
          rw [hoc, hok, hod] at hHx
          have hXo := HX.out
          rw [hoc, hok, hod] at hXo
          have HSS : Hid (∀ W, Below w9.heap.size w9 W → (W.cell? ⟨rp, 0, none⟩ = some (.slice (some ⟨b', o', none⟩) V.length rc) ∧ (W.cell? ⟨b, o + n' * 7, none⟩ = some (.int .i64 os) ∧ W.cell? ⟨b, o + n' * 7 + 1, none⟩ = some (.bool oc) ∧ W.cell? ⟨b, o + n' * 7 + 2, none⟩ = some (.int .i64 ok) ∧ W.cell? ⟨b, o + n' * 7 + 3, none⟩ = some (.int .i64 od) ∧ W.cell? ⟨b, o + n' * 7 + 4, none⟩ = some (.int .i64 on) ∧ W.cell? ⟨b, o + n' * 7 + 5, none⟩ = some (.int .i64 om) ∧ W.cell? ⟨b, o + n' * 7 + 6, none⟩ = some (.int .i64 op)) ∧ W.cell? ⟨b', o' + j * 7, none⟩ = some (.int .i64 os) ∧ W.cell? ⟨b', o' + j * 7 + 1, none⟩ = some (.int .i64 (kindV oc)) ∧ W.cell? ⟨b', o' + j * 7 + 2, none⟩ = some (.int .i64 ok) ∧ W.cell? ⟨b', o' + j * 7 + 3, none⟩ = some (.int .i64 od) ∧ W.cell? ⟨b', o' + j * 7 + 4, none⟩ = some (.int .i64 on) ∧ W.cell? ⟨b', o' + j * 7 + 5, none⟩ = some (.int .i64 om) ∧ W.cell? ⟨b', o' + j * 7 + 6, none⟩ = some (.int .i64 op))) := fun W hW => by
            have h1 := HBo9.out.rf.blk.after hW
            rw [HRa.out] at h1
            have h2 : RecsAt W (some ⟨b, o, none⟩) 7 encS H := RowsAt.after hHr hW
            have h3 : RecsAt W (some ⟨b', o', none⟩) 7 encR V := by rw [← HRa.out]; exact RowsAt.after HRR.out hW
            exact ⟨h1.cell 0 rfl, ⟨RecsAt.cell h2 rfl hnl hHx (j := 0) rfl, RecsAt.cell h2 rfl hnl hHx (j := 1) rfl, RecsAt.cell h2 rfl hnl hHx (j := 2) rfl, RecsAt.cell h2 rfl hnl hHx (j := 3) rfl, RecsAt.cell h2 rfl hnl hHx (j := 4) rfl, RecsAt.cell h2 rfl hnl hHx (j := 5) rfl, RecsAt.cell h2 rfl hnl hHx (j := 6) rfl⟩, RecsAt.cell h3 rfl hlt hXo (j := 0) rfl, RecsAt.cell h3 rfl hlt hXo (j := 1) rfl, RecsAt.cell h3 rfl hlt hXo (j := 2) rfl, RecsAt.cell h3 rfl hlt hXo (j := 3) rfl, RecsAt.cell h3 rfl hlt hXo (j := 4) rfl, RecsAt.cell h3 rfl hlt hXo (j := 5) rfl, RecsAt.cell h3 rfl hlt hXo (j := 6) rfl⟩
          have HPl : Hid (∀ W, Calls Try.prog 29 #[.agg #[.int .i64 os, .bool oc, .int .i64 ok, .int .i64 od, .int .i64 on, .int .i64 om, .int .i64 op]] W fun e w' => e = .returned (.agg #[.int .i64 os, .int .i64 (kindV oc), .int .i64 ok, .int .i64 od, .int .i64 on, .int .i64 om, .int .i64 op]) ∧ Below W.heap.size W w') := fun W => plain_ok12 ⟨os, oc, ok, od, on, om, op⟩ W
          have heq := fun w => arr_neq os (kindV oc) ok od on om op os (kindV oc) ok od on om op w
          rw [decide_eq_true rfl] at heq
          have i3 : (0 : Int) ≤ (n' : Int) := by omega
          have i4 : (n' : Int) < (H.length : Int) := by omega
          have i5 : decide ((H.length : Int) ≤ (n' : Int)) = false := decide_eq_false (by omega)
          have i6 : decide (H.length ≤ n') = false := decide_eq_false (by omega)
          clear hHx hXo hHr hoc hok hod hq2
          go_wp2_with (go_quiet (fail))
          have bd0 : Below w9.heap.size w9 ((wr.drewN nq).drew) := (HBq.out.trans ((below_draws _ nq).mono zq)).trans ((Below.refl _ _).drew.mono (by have := (below_draws (B := wr.heap.size) wr nq).size; omega))
          clear c0 r1 r2 r3 y0 y1 y2 y3 y4 y5 y6
          go_region_held3 (fun W => W.cell? ⟨rp, 0, none⟩ = some (.slice (some ⟨b', o', none⟩) V.length rc) ∧ (W.cell? ⟨b, o + n' * 7, none⟩ = some (.int .i64 os) ∧ W.cell? ⟨b, o + n' * 7 + 1, none⟩ = some (.bool oc) ∧ W.cell? ⟨b, o + n' * 7 + 2, none⟩ = some (.int .i64 ok) ∧ W.cell? ⟨b, o + n' * 7 + 3, none⟩ = some (.int .i64 od) ∧ W.cell? ⟨b, o + n' * 7 + 4, none⟩ = some (.int .i64 on) ∧ W.cell? ⟨b, o + n' * 7 + 5, none⟩ = some (.int .i64 om) ∧ W.cell? ⟨b, o + n' * 7 + 6, none⟩ = some (.int .i64 op)) ∧ W.cell? ⟨b', o' + j * 7, none⟩ = some (.int .i64 os) ∧ W.cell? ⟨b', o' + j * 7 + 1, none⟩ = some (.int .i64 (kindV oc)) ∧ W.cell? ⟨b', o' + j * 7 + 2, none⟩ = some (.int .i64 ok) ∧ W.cell? ⟨b', o' + j * 7 + 3, none⟩ = some (.int .i64 od) ∧ W.cell? ⟨b', o' + j * 7 + 4, none⟩ = some (.int .i64 on) ∧ W.cell? ⟨b', o' + j * 7 + 5, none⟩ = some (.int .i64 om) ∧ W.cell? ⟨b', o' + j * 7 + 6, none⟩ = some (.int .i64 op))
            (first | with_reducible exact HSS.out _ bd0 | with_reducible exact HSS.out _ bf)
            ((go_at_call 29; (with_reducible refine (HPl.out _).mono ?_); rintro e wf ⟨rfl, hbf⟩; have bf := bd0.trans (hbf.mono bd0.size)))
          have HBf := Lib.hid bf
          clear bf hbf bd0 HSS HPl heq i3 i4 i5 i6
          go_wp2_with fail
          go_roundw
          case rel => exact ⟨j + 1, n' + 1, by omega, by go_num, by go_num, HN1, HBf⟩
          case measure => simp [intOf]; omega
        · obtain rfl : j = V.length := by omega
          have hn' : n' = H.length := by rw [← HTk.out, List.take_length, HOf.out]
          subst hn'
          have kv := KV9.out.after HBq.out
          have y3 : wr.cell? ⟨w.heap.size, 3, none⟩ = some (.int .i64 yd) := kv.cell 3 rfl
          have c0 : wr.cell? ⟨rp, 0, none⟩ = some (.slice (some ⟨b', o', none⟩) V.length rc) := (HBo9.out.rf.blk.after HBq.out).cell 0 rfl
          clear kv
          go_wp2_with fail
          go_loopw [19, 20] (fun m day wl => ∃ (mm : Nat) (dd : Int), m = .int .i64 mm ∧ day = .int .i64 dd ∧ yd ≤ dd ∧ dd ≤ 61 ∧ Hid (DayAt L mm dd ∧ ∀ x ∈ L.take mm, x.d < dd) ∧ Hid (Below w9.heap.size w9 wl)) (fun m day _ => (t + 1 - intOf day).toNat)
          case atStart => exact ⟨0, yd, rfl, rfl, Int.le_refl _, by omega, ⟨⟨Nat.zero_le _, fun x hx => ((HD.out.2 x).1 hx).1⟩, fun x hx => by simp at hx⟩, HBq.out⟩
          case round =>
            obtain ⟨mm, dd, rfl, rfl, hdd, hd61, HDy, HBl⟩ := hrel
            obtain ⟨wl, rfl⟩ : ∃ wl : World, wl = wr := ⟨_, rfl⟩
            have zl := HBl.out.size
            clear y3 c0
            have kv := KV9.out.after HBl.out
            have y0 : wl.cell? ⟨w.heap.size, 0, none⟩ = some (.int .i64 ys) := kv.cell 0 rfl
            have y2 : wl.cell? ⟨w.heap.size, 2, none⟩ = some (.int .i64 yk) := kv.cell 2 rfl
            clear kv
            have wd1 : IntKind.i64.wrap (dd + 1) = dd + 1 := IntWalk.i64_in _ (by omega)
            have hml := HDy.out.1.le
            by_cases hdt : dd ≤ t
            · have e1 : decide (dd ≤ t) = true := decide_eq_true hdt
              go_wp2_with fail
              with_reducible refine (rlat_ok N rp _ V yc yk dd ys wl (HBo9.out.rf.after HBl.out) (by omega)).mono ?_
              rintro e w10 ⟨i, rfl, hi, hb10⟩
              have hb9 := HBl.out.trans (hb10.mono zl)
              have HBm := Lib.hid hb9
              have HLa := Lib.hid (lat_at hi)
              clear hi hb10 hb9 y0 y2 e1
              rcases HLa.out with ⟨rfl, ho⟩ | ⟨n1, o, rfl, hn1, hno, ho⟩
              · have HDy2 : Hid (DayAt L mm (dd + 1) ∧ ∀ x ∈ L.take mm, x.d < dd + 1) := ⟨HDy.out.1.none HD.out ho, fun x hx => by have := HDy.out.2 x hx; omega⟩
                clear ho
                go_wp2_with fail
                go_roundw
                case rel => exact ⟨mm, dd + 1, rfl, by go_num, by omega, by omega, HDy2, HBm⟩
                case measure => simp [intOf]; omega
              · obtain ⟨hLm, hDa, hTa⟩ := DayAt.some HD.out HDy.out.2 HDy.out.1 hdd hdt ho
                have HDy2 : Hid (DayAt L (mm + 1) (dd + 1) ∧ ∀ x ∈ L.take (mm + 1), x.d < dd + 1) := ⟨hDa, hTa⟩
                have hml2 : mm < L.length := (List.getElem?_eq_some_iff.1 hLm).1
                obtain ⟨os, oc, ok, od, on, om, op⟩ := o
                have hLr := HL9.out
                have hR2 := HRR.out
                obtain ⟨b, o, rfl, _⟩ := hLr (by omega)
                obtain ⟨b', o', hra, _⟩ := hR2 (by omega)
                have HSS : Hid (∀ W, Below w9.heap.size w9 W → (W.cell? ⟨rp, 0, none⟩ = some (.slice (some ⟨b', o', none⟩) V.length rc) ∧ (W.cell? ⟨b, o + mm * 7, none⟩ = some (.int .i64 os) ∧ W.cell? ⟨b, o + mm * 7 + 1, none⟩ = some (.bool oc) ∧ W.cell? ⟨b, o + mm * 7 + 2, none⟩ = some (.int .i64 ok) ∧ W.cell? ⟨b, o + mm * 7 + 3, none⟩ = some (.int .i64 od) ∧ W.cell? ⟨b, o + mm * 7 + 4, none⟩ = some (.int .i64 on) ∧ W.cell? ⟨b, o + mm * 7 + 5, none⟩ = some (.int .i64 om) ∧ W.cell? ⟨b, o + mm * 7 + 6, none⟩ = some (.int .i64 op)) ∧ W.cell? ⟨b', o' + n1 * 7, none⟩ = some (.int .i64 os) ∧ W.cell? ⟨b', o' + n1 * 7 + 1, none⟩ = some (.int .i64 (kindV oc)) ∧ W.cell? ⟨b', o' + n1 * 7 + 2, none⟩ = some (.int .i64 ok) ∧ W.cell? ⟨b', o' + n1 * 7 + 3, none⟩ = some (.int .i64 od) ∧ W.cell? ⟨b', o' + n1 * 7 + 4, none⟩ = some (.int .i64 on) ∧ W.cell? ⟨b', o' + n1 * 7 + 5, none⟩ = some (.int .i64 om) ∧ W.cell? ⟨b', o' + n1 * 7 + 6, none⟩ = some (.int .i64 op))) := fun W hW => by
                  have h1 := HBo9.out.rf.blk.after hW
                  rw [hra] at h1
                  have h2 : RecsAt W (some ⟨b, o, none⟩) 7 encS L := RowsAt.after hLr hW
                  have h3 : RecsAt W (some ⟨b', o', none⟩) 7 encR V := by rw [← hra]; exact RowsAt.after HRR.out hW
                  exact ⟨h1.cell 0 rfl, ⟨RecsAt.cell h2 rfl hml2 hLm (j := 0) rfl, RecsAt.cell h2 rfl hml2 hLm (j := 1) rfl, RecsAt.cell h2 rfl hml2 hLm (j := 2) rfl, RecsAt.cell h2 rfl hml2 hLm (j := 3) rfl, RecsAt.cell h2 rfl hml2 hLm (j := 4) rfl, RecsAt.cell h2 rfl hml2 hLm (j := 5) rfl, RecsAt.cell h2 rfl hml2 hLm (j := 6) rfl⟩, RecsAt.cell h3 rfl hn1 hno (j := 0) rfl, RecsAt.cell h3 rfl hn1 hno (j := 1) rfl, RecsAt.cell h3 rfl hn1 hno (j := 2) rfl, RecsAt.cell h3 rfl hn1 hno (j := 3) rfl, RecsAt.cell h3 rfl hn1 hno (j := 4) rfl, RecsAt.cell h3 rfl hn1 hno (j := 5) rfl, RecsAt.cell h3 rfl hn1 hno (j := 6) rfl⟩
                have HPl : Hid (∀ W, Calls Try.prog 29 #[.agg #[.int .i64 os, .bool oc, .int .i64 ok, .int .i64 od, .int .i64 on, .int .i64 om, .int .i64 op]] W fun e w' => e = .returned (.agg #[.int .i64 os, .int .i64 (kindV oc), .int .i64 ok, .int .i64 od, .int .i64 on, .int .i64 om, .int .i64 op]) ∧ Below W.heap.size W w') := fun W => plain_ok12 ⟨os, oc, ok, od, on, om, op⟩ W
                have heq := fun w => arr_neq os (kindV oc) ok od on om op os (kindV oc) ok od on om op w
                rw [decide_eq_true rfl] at heq
                have i1 : (0 : Int) ≤ (n1 : Int) := by omega
                have i2 : (n1 : Int) < (V.length : Int) := by omega
                have i0 : decide ((0 : Int) ≤ (n1 : Int)) = true := decide_eq_true i1
                have i3 : (0 : Int) ≤ (mm : Int) := by omega
                have i4 : (mm : Int) < (L.length : Int) := by omega
                have i5 : decide ((L.length : Int) ≤ (mm : Int)) = false := decide_eq_false (by omega)
                have i6 : decide (L.length ≤ mm) = false := decide_eq_false (by omega)
                have bd0 : Below w9.heap.size w9 w10.drew := HBm.out.trans ((Below.refl _ _).drew.mono HBm.out.size)
                clear hLm hLr hR2 hra ho hno hDa hTa
                go_wp2_with fail
                go_region_held3 (fun W => W.cell? ⟨rp, 0, none⟩ = some (.slice (some ⟨b', o', none⟩) V.length rc) ∧ (W.cell? ⟨b, o + mm * 7, none⟩ = some (.int .i64 os) ∧ W.cell? ⟨b, o + mm * 7 + 1, none⟩ = some (.bool oc) ∧ W.cell? ⟨b, o + mm * 7 + 2, none⟩ = some (.int .i64 ok) ∧ W.cell? ⟨b, o + mm * 7 + 3, none⟩ = some (.int .i64 od) ∧ W.cell? ⟨b, o + mm * 7 + 4, none⟩ = some (.int .i64 on) ∧ W.cell? ⟨b, o + mm * 7 + 5, none⟩ = some (.int .i64 om) ∧ W.cell? ⟨b, o + mm * 7 + 6, none⟩ = some (.int .i64 op)) ∧ W.cell? ⟨b', o' + n1 * 7, none⟩ = some (.int .i64 os) ∧ W.cell? ⟨b', o' + n1 * 7 + 1, none⟩ = some (.int .i64 (kindV oc)) ∧ W.cell? ⟨b', o' + n1 * 7 + 2, none⟩ = some (.int .i64 ok) ∧ W.cell? ⟨b', o' + n1 * 7 + 3, none⟩ = some (.int .i64 od) ∧ W.cell? ⟨b', o' + n1 * 7 + 4, none⟩ = some (.int .i64 on) ∧ W.cell? ⟨b', o' + n1 * 7 + 5, none⟩ = some (.int .i64 om) ∧ W.cell? ⟨b', o' + n1 * 7 + 6, none⟩ = some (.int .i64 op))
                  (first | with_reducible exact HSS.out _ bd0 | with_reducible exact HSS.out _ bf)
                  ((go_at_call 29; (with_reducible refine (HPl.out _).mono ?_); rintro e wf ⟨rfl, hbf⟩; have bf := bd0.trans (hbf.mono bd0.size)))
                have HBf := Lib.hid bf
                clear bf hbf bd0 HSS HPl heq i3 i4 i5 i6 i0
                go_wp2_with fail
                go_roundw
                case rel => exact ⟨mm + 1, dd + 1, by go_num, by go_num, by omega, by omega, HDy2, HBf⟩
                case measure => simp [intOf]; omega
            · have e1 : decide (dd ≤ t) = false := decide_eq_false hdt
              obtain rfl : mm = L.length := DayAt.fin HD.out HDy.out.1 (by omega)
              go_wp2_with fail
              with_reducible refine (awake_ok12 _).mono ?_
              rintro e w99 ⟨rfl, hb99⟩
              go_wp2_with fail
              go_ret
              exact ⟨rfl, HB9.out.trans ((HBl.out.trans (hb99.mono zl)).mono HB9.out.size)⟩

end Go.Proofs.Ytkloijkfaooodaa

