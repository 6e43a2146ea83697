/- alike, Few; the document's Total. -/
import Derived.Test.YtklbgcpafbjekaaDoorEntM
import Derived.Test.YtklbgcpafbjekaaDoorEqs
namespace Go.Proofs.YtklbgcpafbjekaaDoor
open Go.RowKit
set_option linter.unusedVariables false
set_option linter.unusedSimpArgs false

theorem six_ne (a b c d e f a' b' c' d' e' f' : Int) (w : World) : (binOp .neq 32 (.agg #[.int .i64 a, .int .i64 b, .int .i64 c, .int .i64 d, .int .i64 e, .int .i64 f]) (.agg #[.int .i64 a', .int .i64 b', .int .i64 c', .int .i64 d', .int .i64 e', .int .i64 f'])).run Tryd.prog w
    = .ok (.bool (!decide ([a, b, c, d, e, f] = [a', b', c', d', e', f']))) w := by
  obtain ⟨i, hi⟩ : ∃ i, Tryd.prog.info? 3 = some i := by have := infoInt; cases h : Tryd.prog.info? 3 with | none => rw [h] at this; cases this | some i => exact ⟨i, rfl⟩
  rw [run_neq_struct]
  have := eq_array (P := Tryd.prog) w (t := 32) Tryd.underlying32 hi Tryd.underlying3 (by kernel_rfl) (by kernel_rfl) [a, b, c, d, e, f] [a', b', c', d', e', f'] rfl rfl
  unfold intC at this
  simp only [List.map_cons, List.map_nil] at this
  rw [this]
  rfl
theorem rline_ne (a b c a' b' c' : Int) (w : World) : (binOp .neq 60 (.agg #[.int .i64 a, .int .i64 b, .int .i64 c]) (.agg #[.int .i64 a', .int .i64 b', .int .i64 c'])).run Tryd.prog w
    = .ok (.bool (!decide (([a, b, c] : List Int) = [a', b', c']))) w := by
  obtain ⟨i, hi⟩ : ∃ i, Tryd.prog.info? 3 = some i := by have := infoInt; cases h : Tryd.prog.info? 3 with | none => rw [h] at this; cases this | some i => exact ⟨i, rfl⟩
  rw [run_neq_struct]
  have := eq_array (P := Tryd.prog) w (t := 60) Tryd.underlying60 hi Tryd.underlying3 (by kernel_rfl) (by kernel_rfl) [a, b, c] [a', b', c'] rfl rfl
  unfold intC at this
  simp only [List.map_cons, List.map_nil] at this
  rw [this]
  rfl

theorem few_ok (s : Six) (a : Option Addr) (cap n : Nat) (w : World) (hn : n ≤ 9223372036854775807) : Calls Tryd.prog 8 #[entV s a n cap] w fun e w' => e = .returned (.bool (decide (n ≤ 20))) ∧ Below w.heap.size w w' := by
  have hbx := Blk.new w (entCs s a n cap) 26
  have b6 : (w.alloc (.cells (entCs s a n cap) 26)).cell? ⟨w.heap.size, 6, none⟩ = some (.slice a n cap) := hbx.cell 6 rfl
  unfold entCs at b6
  clear hbx
  unfold entV
  go_enter Tryd.func8, Tryd.ntmps8
  go_wp2_with fail
  go_ret
  exact ⟨ret_bool (by rw [Bool.eq_iff_iff]; simp; try omega), (Below.refl _ _).alloc (Nat.le_refl _) _⟩

def Six.nums (s : Six) : List Int := [s.con, s.day, s.cur, s.seq, s.per, s.ref]
theorem lnl_eq {l m : Ln} : ([l.p, l.c, l.a] : List Int) = [m.p, m.c, m.a] ↔ l = m := by
  obtain ⟨a, b, c⟩ := l
  obtain ⟨a', b', c'⟩ := m
  simp

set_option maxHeartbeats 2000000 in
theorem alike_ok (s t : Six) (a b : Option Addr) (ca cb : Nat) (xs ys : List Ln) (w : World) (hx : LnAt w a xs) (hy : LnAt w b ys) (hl : xs.length ≤ 1000) (hm : ys.length ≤ 1000) :
    Calls Tryd.prog 16 #[entV s a xs.length ca, entV t b ys.length cb] w fun e w' => e = .returned (.bool (decide (s.nums = t.nums ∧ xs = ys))) ∧ Below w.heap.size w w' := by
  obtain ⟨wa, hwa⟩ : ∃ wa, w.alloc (.cells (entCs s a xs.length ca) 35) = wa := ⟨_, rfl⟩
  obtain ⟨wb, hwb⟩ : ∃ wb, wa.alloc (.cells (entCs t b ys.length cb) 35) = wb := ⟨_, rfl⟩
  have k0 : Blk wa w.heap.size (entCs s a xs.length ca) 35 := by rw [← hwa]; exact Blk.new _ _ _
  have k1 : Blk wb wa.heap.size (entCs t b ys.length cb) 35 := by rw [← hwb]; exact Blk.new _ _ _
  have ba : Below w.heap.size w wa := by rw [← hwa]; exact (Below.refl _ _).alloc (Nat.le_refl _) _
  have bb : Below wa.heap.size wa wb := by rw [← hwb]; exact (Below.refl _ _).alloc (Nat.le_refl _) _
  have K0 := Lib.hid (k0.after bb)
  have K1 := Lib.hid k1
  have hbw : Below w.heap.size w wb := ba.trans (bb.mono ba.size)
  have hn6 := six_ne s.con s.day s.cur s.seq s.per s.ref t.con t.day t.cur t.seq t.per t.ref
  have HN : Hid ([s.con, s.day, s.cur, s.seq, s.per, s.ref] = s.nums ∧ [t.con, t.day, t.cur, t.seq, t.per, t.ref] = t.nums) := ⟨rfl, rfl⟩
  rw [HN.out.1, HN.out.2] at hn6
  have HXY := Lib.hid (at_eq_list xs ys)
  have HX := Lib.hid hx
  have HY := Lib.hid hy
  simp only [entCs] at hwa hwb
  have p0 : wb.cell? ⟨w.heap.size, 0, none⟩ = some (.int .i64 s.con) := K0.out.cell 0 rfl
  have p1 : wb.cell? ⟨w.heap.size, 1, none⟩ = some (.int .i64 s.day) := K0.out.cell 1 rfl
  have p2 : wb.cell? ⟨w.heap.size, 2, none⟩ = some (.int .i64 s.cur) := K0.out.cell 2 rfl
  have p3 : wb.cell? ⟨w.heap.size, 3, none⟩ = some (.int .i64 s.seq) := K0.out.cell 3 rfl
  have p4 : wb.cell? ⟨w.heap.size, 4, none⟩ = some (.int .i64 s.per) := K0.out.cell 4 rfl
  have p5 : wb.cell? ⟨w.heap.size, 5, none⟩ = some (.int .i64 s.ref) := K0.out.cell 5 rfl
  have p6 : wb.cell? ⟨w.heap.size, 6, none⟩ = some (.slice a xs.length ca) := K0.out.cell 6 rfl
  have q0 : wb.cell? ⟨wa.heap.size, 0, none⟩ = some (.int .i64 t.con) := K1.out.cell 0 rfl
  have q1 : wb.cell? ⟨wa.heap.size, 1, none⟩ = some (.int .i64 t.day) := K1.out.cell 1 rfl
  have q2 : wb.cell? ⟨wa.heap.size, 2, none⟩ = some (.int .i64 t.cur) := K1.out.cell 2 rfl
  have q3 : wb.cell? ⟨wa.heap.size, 3, none⟩ = some (.int .i64 t.seq) := K1.out.cell 3 rfl
  have q4 : wb.cell? ⟨wa.heap.size, 4, none⟩ = some (.int .i64 t.per) := K1.out.cell 4 rfl
  have q5 : wb.cell? ⟨wa.heap.size, 5, none⟩ = some (.int .i64 t.ref) := K1.out.cell 5 rfl
  have q6 : wb.cell? ⟨wa.heap.size, 6, none⟩ = some (.slice b ys.length cb) := K1.out.cell 6 rfl
  clear k0 k1 ba bb hx hy
  unfold entV
  by_cases hnum : s.nums = t.nums
  · rw [decide_eq_true hnum] at hn6
    have HNUM := Lib.hid hnum
    clear hnum
    by_cases hlen : xs.length = ys.length
    · obtain ⟨n, hN⟩ : ∃ n, ys.length = n := ⟨_, rfl⟩
      have HL1 := Lib.hid (hlen.trans hN)
      have HL2 := Lib.hid hN
      rw [hN] at hlen hm q6 hwb
      rw [hN]
      rw [hlen] at hl p6 hwa
      rw [hlen]
      clear hlen hN
      go_enter Tryd.func16, Tryd.ntmps16
      go_wp2_with (go_quiet (fail))
      clear hwa hwb hn6 p0 p1 p2 p3 p4 p5 p6 q0 q1 q2 q3 q4 q5 q6
      go_loopw [5] (fun i wr => ∃ k : Nat, k ≤ n ∧ i = .int .i64 k ∧ (∀ j, j < k → Ln.at xs j = Ln.at ys j) ∧ Below wb.heap.size wb wr) (fun i _ => n - (intOf i).toNat)
      case atStart => exact ⟨0, by omega, rfl, fun j hj => absurd hj (by omega), by first | exact Below.refl _ _ | exact below_draws _ _⟩
      case round =>
        obtain ⟨k, hk, rfl, hall, hbl⟩ := hrel
        have HA := Lib.hid hall
        clear hall
        have p6 : wr.cell? ⟨w.heap.size, 6, none⟩ = some (.slice a n ca) := by rw [← HL1.out]; exact (K0.out.after hbl).cell 6 rfl
        have q6 : wr.cell? ⟨wa.heap.size, 6, none⟩ = some (.slice b n cb) := by rw [← HL2.out]; exact (K1.out.after hbl).cell 6 rfl
        have hend : Below w.heap.size w wr := hbw.trans (hbl.mono hbw.size)
        by_cases hlt : k < n
        · obtain ⟨ba, oa, rfl, hca⟩ := HX.out.after hend (by have := HL1.out; omega)
          obtain ⟨bb, ob, rfl, hcb⟩ := HY.out.after hend (by have := HL2.out; omega)
          obtain ⟨c0, c1, c2⟩ := hca k (by have := HL1.out; omega)
          obtain ⟨d0, d1, d2⟩ := hcb k (by have := HL2.out; omega)
          have i1 : (0 : Int) ≤ (k : Int) := by omega
          have i2 : (k : Int) < (n : Int) := by omega
          have hne := rline_ne (Ln.at xs k).p (Ln.at xs k).c (Ln.at xs k).a (Ln.at ys k).p (Ln.at ys k).c (Ln.at ys k).a
          clear hca hcb
          by_cases he : Ln.at xs k = Ln.at ys k
          · have HE := Lib.hid he
            rw [decide_eq_true (lnl_eq.2 he)] at hne
            clear he
            go_wp2_with (go_quiet (fail))
            go_roundw
            case rel => exact ⟨k + 1, by omega, by go_num, fun j hj => by
              rcases Nat.lt_or_ge j k with g | g
              · exact HA.out j g
              · obtain rfl : j = k := by omega
                exact HE.out, hbl.trans (below_draws _ _)⟩
            case measure => simp [intOf]; omega
          · have HE := Lib.hid he
            rw [decide_eq_false (fun h => he (lnl_eq.1 h))] at hne
            clear he
            go_wp2_with (go_quiet (fail))
            go_ret
            exact ⟨ret_bool (by rw [eq_comm, decide_eq_false_iff_not]; exact fun h => HE.out (by rw [h.2])), hend.trans (below_draws _ _)⟩
        · obtain rfl : k = n := by omega
          go_wp2_with fail
          go_ret
          exact ⟨ret_bool (by rw [eq_comm, decide_eq_true_iff]; exact ⟨HNUM.out, HXY.out (HL1.out.trans HL2.out.symm) fun j hj => HA.out j (by have := HL1.out; omega)⟩), hend⟩
    · have h1 : ((xs.length : Int) != (ys.length : Int)) = true := by rw [bne_iff_ne]; omega
      have h2 : (xs.length != ys.length) = true := by rw [bne_iff_ne]; omega
      have HL := Lib.hid hlen
      clear hlen
      go_enter Tryd.func16, Tryd.ntmps16
      go_wp2_with (go_quiet (fail))
      go_ret
      exact ⟨ret_bool (by rw [eq_comm, decide_eq_false_iff_not]; exact fun h => HL.out (by rw [h.2])), by first | exact hbw | exact hbw.trans (below_draws _ _)⟩
  · rw [decide_eq_false hnum] at hn6
    have HNUM := Lib.hid hnum
    clear hnum
    go_enter Tryd.func16, Tryd.ntmps16
    go_wp2_with (go_quiet (fail))
    go_ret
    exact ⟨ret_bool (by rw [eq_comm, decide_eq_false_iff_not]; exact fun h => HNUM.out h.1), by first | exact hbw | exact hbw.trans (below_draws _ _)⟩

end Go.Proofs.YtklbgcpafbjekaaDoor
