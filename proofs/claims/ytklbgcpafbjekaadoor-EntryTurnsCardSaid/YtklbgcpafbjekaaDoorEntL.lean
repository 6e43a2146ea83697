/- Plain: an entry as the document's answer has it. -/
import Derived.Test.YtklbgcpafbjekaaDoorEntK
import Derived.Test.YtklbgcpafbjekaaDoorHeld
namespace Go.Proofs.YtklbgcpafbjekaaDoor
open Go.RowKit
set_option linter.unusedVariables false
set_option linter.unusedSimpArgs false

theorem infoRLine : (Tryd.prog.info? 60).map (fun i => (i.zero, i.size, i.bytes)) = some (some (.agg #[.int .i64 0, .int .i64 0, .int .i64 0]), 3, 24) := by kernel_rfl

/-- A line's cells. -/
def lnRow (ls : List Ln) (i : Nat) : List Value := [.int .i64 (Ln.at ls i).p, .int .i64 (Ln.at ls i).c, .int .i64 (Ln.at ls i).a]
theorem rows_ln {w : World} {a : Option Addr} {ls : List Ln} (h : RowsAt w a ls.length 3 (lnRow ls)) : LnAt w a ls := fun hl => by
  obtain ⟨b, o, e, hc⟩ := h hl
  exact ⟨b, o, e, fun i hi => ⟨hc i hi 0 _ rfl, hc i hi 1 _ rfl, hc i hi 2 _ rfl⟩⟩

theorem OBox.of_blk {w : World} {B : Nat} {T : TypeId} (h : Blk w B (entCs zero6 none 0 0) T) : OBox w B :=
  ⟨⟨h.cell 0 rfl, h.cell 1 rfl, h.cell 2 rfl, h.cell 3 rfl, h.cell 4 rfl, h.cell 5 rfl, h.cell 6 rfl⟩, h.free 0, h.free 1, h.free 2, h.free 3, h.free 4, h.free 5, h.free 6⟩

theorem own_base {w : World} {base base' e size n : Nat} {v : Value} {xs : List Value} (h : w.ownsRow base e size v n xs) (hb : base' ≤ base) : w.ownsRow base' e size v n xs := by
  obtain ⟨h1, h2⟩ := h
  refine ⟨h1, ?_⟩
  rcases h2 with h2 | ⟨g, cap, cur, hv, hg, r⟩
  · exact Or.inl h2
  · exact Or.inr ⟨g, cap, cur, hv, Nat.le_trans hb hg, r⟩

def PlainEnd (s : Six) (ls : List Ln) (w : World) (e : Ending) (w' : World) : Prop :=
  ∃ c cap, e = .returned (entV s c ls.length cap) ∧ (c = none → ls.length = 0 ∧ cap = 0) ∧ LnAt w' c ls ∧ Below w.heap.size w w' ∧ (∀ x, c = some x → w.heap.size ≤ x.block) ∧ w'.ownsRow w.heap.size 60 3 (.slice c ls.length cap) ls.length (flatF (lnRow ls) ls.length)

/-- What stands of Plain at the head of its loop. -/
def PlainRel (s : Six) (a : Option Addr) (cap0 : Nat) (ls : List Ln) (w wa wb wc : World) (k : Nat) (wr : World) : Prop :=
  ∃ c cap, wr.ownsRow wc.heap.size 60 3 (.slice c k cap) k (flatF (lnRow ls) k) ∧ Blk wr wb.heap.size #[.int .i64 s.con, .int .i64 s.day, .int .i64 s.cur, .int .i64 s.seq, .int .i64 s.per, .int .i64 s.ref, .slice c k cap] 35
    ∧ Blk wr w.heap.size (entCs s a ls.length cap0) 26 ∧ Blk wr wa.heap.size (entCs zero6 none 0 0) 35 ∧ Below w.heap.size w wr ∧ wc.heap.size ≤ wr.heap.size

/-- What the append leaves as it was. -/
theorem PlainRel.kept {s : Six} {a : Option Addr} {cap0 : Nat} {ls : List Ln} {w wa wb wc : World} {k : Nat} {wr wd w1 : World} {v : Value} {cs : Array Value} (hown : wr.ownsRow wc.heap.size 60 3 v k (flatF (lnRow ls) k)) (h2 : Blk wr wb.heap.size cs 35)
    (h0 : Blk wr w.heap.size (entCs s a ls.length cap0) 26) (h1 : Blk wr wa.heap.size (entCs zero6 none 0 0) 35) (hbl : Below w.heap.size w wr) (hz : w.heap.size ≤ wc.heap.size) (hd : Below wr.heap.size wr wd) (hg : wd.grownBy w1 v.ownBlock) :
    Blk w1 wb.heap.size cs 35 ∧ Blk w1 w.heap.size (entCs s a ls.length cap0) 26 ∧ Blk w1 wa.heap.size (entCs zero6 none 0 0) 35 ∧ Below w.heap.size w w1 ∧ wr.heap.size ≤ w1.heap.size :=
  ⟨(h2.after hd).grown hg (h2.own_ne hown (by decide)), (h0.after hd).grown hg (h0.own_ne hown (by decide)), (h1.after hd).grown hg (h1.own_ne hown (by decide)),
   (hbl.trans (hd.mono hbl.size)).grown hg (Nat.le_trans hbl.size hd.size) (fun q e => by have := (hown.lt q e).1; omega), Nat.le_trans hd.size hg.size⟩

set_option maxHeartbeats 1000000 in
theorem plain_ok (s : Six) (a : Option Addr) (cap0 : Nat) (ls : List Ln) (w : World) (hx : LnAt w a ls) (hl : ls.length ≤ 1000) :
    Calls Tryd.prog 12 #[entV s a ls.length cap0] w (PlainEnd s ls w) := by
  obtain ⟨i0, hi, hz0, hz1, hz2⟩ := info_parts infoRLine
  obtain ⟨wa, hwa⟩ : ∃ wa, w.alloc (.cells (entCs s a ls.length cap0) 26) = wa := ⟨_, rfl⟩
  obtain ⟨wb, hwb⟩ : ∃ wb, wa.alloc (.cells (entCs zero6 none 0 0) 35) = wb := ⟨_, rfl⟩
  obtain ⟨wc, hwc⟩ : ∃ wc, wb.alloc (.cells (entCs s none 0 0) 35) = wc := ⟨_, rfl⟩
  have k0 : Blk wa w.heap.size (entCs s a ls.length cap0) 26 := by rw [← hwa]; exact Blk.new _ _ _
  have k1 : Blk wb wa.heap.size (entCs zero6 none 0 0) 35 := by rw [← hwb]; exact Blk.new _ _ _
  have k2 : Blk wc wb.heap.size (entCs s none 0 0) 35 := by rw [← hwc]; exact Blk.new _ _ _
  have ba : Below w.heap.size w wa := by rw [← hwa]; exact (Below.refl _ _).alloc (Nat.le_refl _) _
  have bb : Below wa.heap.size wa wb := by rw [← hwb]; exact (Below.refl _ _).alloc (Nat.le_refl _) _
  have bc : Below wb.heap.size wb wc := by rw [← hwc]; exact (Below.refl _ _).alloc (Nat.le_refl _) _
  have za : wa.heap.size = w.heap.size + 1 := by rw [← hwa]; simp
  have zb : wb.heap.size = wa.heap.size + 1 := by rw [← hwb]; simp
  have zc : wc.heap.size = wb.heap.size + 1 := by rw [← hwc]; simp
  have K0 := Lib.hid ((k0.after bb).after bc)
  have K1 := Lib.hid (k1.after bc)
  have K2 := Lib.hid k2
  have hbw : Below w.heap.size w wc := (ba.trans (bb.mono ba.size)).trans (bc.mono (by omega))
  have HZ : Hid (wa.heap.size = w.heap.size + 1 ∧ wb.heap.size = wa.heap.size + 1 ∧ wc.heap.size = wb.heap.size + 1) := ⟨za, zb, zc⟩
  have HX := Lib.hid hx
  obtain ⟨con, day, cur, seq, per, ref⟩ := s
  simp only [entCs, zero6] at hwa hwb hwc
  have q0 : wb.cell? ⟨w.heap.size, 0, none⟩ = some (.int .i64 con) := (k0.after bb).cell 0 rfl
  have q1 : wb.cell? ⟨w.heap.size, 1, none⟩ = some (.int .i64 day) := (k0.after bb).cell 1 rfl
  have q2 : wb.cell? ⟨w.heap.size, 2, none⟩ = some (.int .i64 cur) := (k0.after bb).cell 2 rfl
  have q3 : wb.cell? ⟨w.heap.size, 3, none⟩ = some (.int .i64 seq) := (k0.after bb).cell 3 rfl
  have q4 : wb.cell? ⟨w.heap.size, 4, none⟩ = some (.int .i64 per) := (k0.after bb).cell 4 rfl
  have q5 : wb.cell? ⟨w.heap.size, 5, none⟩ = some (.int .i64 ref) := (k0.after bb).cell 5 rfl
  clear za zb zc k0 k1 k2 ba bb bc hx
  show Calls Tryd.prog _ #[.agg #[.int .i64 con, .int .i64 day, .int .i64 cur, .int .i64 seq, .int .i64 per, .int .i64 ref, .slice a ls.length cap0]] w _
  go_enter Tryd.func12, Tryd.ntmps12
  have HWC := Lib.hid hwc
  clear hwc
  go_wp2_with fail
  rw [HWC.out]
  clear hwa hwb HWC q0 q1 q2 q3 q4 q5
  go_loopw [4] (fun i wr => ∃ k : Nat, k ≤ ls.length ∧ i = .int .i64 k ∧ PlainRel ⟨con, day, cur, seq, per, ref⟩ a cap0 ls w wa wb wc k wr) (fun i _ => ls.length - (intOf i).toNat)
  case atStart => exact ⟨0, by omega, rfl, none, 0, World.ownsRow_nil _ _ _ _, K2.out, K0.out, K1.out, hbw, Nat.le_refl _⟩
  case round =>
    obtain ⟨k, hk, rfl, c, cap, hown, h2, h0, h1, hbl, zr⟩ := hrel
    have b6 : wr.cell? ⟨w.heap.size, 6, none⟩ = some (.slice a ls.length cap0) := h0.cell 6 rfl
    by_cases hlt : k < ls.length
    · obtain ⟨b, o, rfl, hc⟩ := HX.out (by omega)
      obtain ⟨d0, d1, d2⟩ := hc k hlt
      have hN : Hid (flatF (lnRow ls) (k + 1) = flatF (lnRow ls) k ++ [.int .i64 (Ln.at ls k).p, .int .i64 (Ln.at ls k).c, .int .i64 (Ln.at ls k).a]) := rfl
      obtain ⟨⟨lp, lc, la⟩, hLL⟩ : ∃ L, Ln.at ls k = L := ⟨_, rfl⟩
      rw [hLL] at d0 d1 d2 hN
      simp only at d0 d1 d2 hN
      have j1 : (0 : Int) ≤ (k : Int) := by omega
      have j2 : (k : Int) < (ls.length : Int) := by omega
      have l6 : wr.cell? ⟨wb.heap.size, 6, none⟩ = some (.slice c k cap) := h2.cell 6 rfl
      have DW : Hid (w.cell? ⟨b, o + k * 3, none⟩ = some (.int .i64 lp) ∧ w.cell? ⟨b, o + k * 3 + 1, none⟩ = some (.int .i64 lc) ∧ w.cell? ⟨b, o + k * 3 + 2, none⟩ = some (.int .i64 la)) := ⟨d0, d1, d2⟩
      replace d0 := below_cell hbl d0
      replace d1 := below_cell hbl d1
      replace d2 := below_cell hbl d2
      clear hc hLL
      go_wp2_with fail
      have e6 := below_cell (Below.refl wr.heap.size wr).drew b6
      have e0 := below_cell (Below.refl wr.heap.size wr).drew d0
      have e1 := below_cell (Below.refl wr.heap.size wr).drew d1
      have e2 := below_cell (Below.refl wr.heap.size wr).drew d2
      have zr2 := hbw.size
      have n1 : w.heap.size ≠ wb.heap.size := by have := HZ.out; omega
      have n2 : b ≠ wb.heap.size := by have := World.block_lt_of_cell? w _ DW.out.1; have := HZ.out; simp at *; omega
      refine wp_region_final (fun w' => w'.cell? ⟨wb.heap.size, 6, none⟩ = some (.slice c k cap) ∧ w'.cell? ⟨w.heap.size, 6, none⟩ = some (.slice (some ⟨b, o, none⟩) ls.length cap0) ∧ w'.cell? ⟨b, o + k * 3, none⟩ = some (.int .i64 lp) ∧ w'.cell? ⟨b, o + k * 3 + 1, none⟩ = some (.int .i64 lc) ∧ w'.cell? ⟨b, o + k * 3 + 2, none⟩ = some (.int .i64 la)) 24 (by kernel_rfl) ?_
      obtain ⟨wd, hwd⟩ : ∃ wd, wr.drew = wd := ⟨_, rfl⟩
      have hbd : Below wr.heap.size wr wd := by rw [← hwd]; exact (Below.refl _ _).drew
      have hba : Below wd.heap.size wd (wd.alloc (.cells #[.int .i64 lp, .int .i64 lc, .int .i64 la] 60)) := (Below.refl _ _).alloc (Nat.le_refl _) _
      have hownd := own_after hown hbd
      have hbD : Below wr.heap.size wr (wd.alloc (.cells #[.int .i64 lp, .int .i64 lc, .int .i64 la] 60)) := hbd.trans (hba.mono hbd.size)
      have hr := fun (w1 : World) (hg : World.grownBy (wd.alloc (.cells #[.int .i64 lp, .int .i64 lc, .int .i64 la] 60)) w1 (Value.ownBlock (.slice c k cap))) => PlainRel.kept hown h2 h0 h1 hbl hbw.size hbD hg
      have HR := Lib.hid hr
      have zdz := hbd.size
      have n3 : wa.heap.size ≠ wb.heap.size := by have := HZ.out; omega
      clear hr
      have hSd : wd.cell? ⟨wb.heap.size, 6, none⟩ = some (.slice c k cap) ∧ wd.cell? ⟨w.heap.size, 6, none⟩ = some (.slice (some ⟨b, o, none⟩) ls.length cap0) ∧ wd.cell? ⟨b, o + k * 3, none⟩ = some (.int .i64 lp) ∧ wd.cell? ⟨b, o + k * 3 + 1, none⟩ = some (.int .i64 lc) ∧ wd.cell? ⟨b, o + k * 3 + 2, none⟩ = some (.int .i64 la) := by rw [← hwd]; exact ⟨below_cell (Below.refl wr.heap.size wr).drew l6, e6, e0, e1, e2⟩
      rw [hwd]
      clear hwd
      refine wpAnyF_takes (i := 0) (v := ?_) rfl (by kernel_rfl) (fun _ _ _ h => h) (by rfl) hSd ?_ ?_
      rotate_left 1
      · intro w hSw
        obtain ⟨s1, s2, s3, s4, s5⟩ := hSw
        go_simp
        try with_reducible rfl
      try simp only [Act.put, List.setIfInBounds_toArray, List.set_cons_zero, List.set_cons_succ]
      refine wpAnyF_takes (i := 1) (v := ?_) rfl (by kernel_rfl) (fun _ _ _ h => h) (by rfl) hSd ?_ ?_
      rotate_left 1
      · intro w hSw
        obtain ⟨s1, s2, s3, s4, s5⟩ := hSw
        go_simp
        try with_reducible rfl
      try simp only [Act.put, List.setIfInBounds_toArray, List.set_cons_zero, List.set_cons_succ]
      refine wpAnyF_takes (i := 2) (v := ?_) rfl (by kernel_rfl) (fun _ _ _ h => h) (by rfl) hSd ?_ ?_
      rotate_left 1
      · intro w hSw
        obtain ⟨s1, s2, s3, s4, s5⟩ := hSw
        go_simp
        try with_reducible rfl
      try simp only [Act.put, List.setIfInBounds_toArray, List.set_cons_zero, List.set_cons_succ]
      refine wpAnyF_takes (i := 3) (v := ?_) rfl (by kernel_rfl) (fun _ _ _ h => h) (by rfl) hSd ?_ ?_
      rotate_left 1
      · intro w hSw
        obtain ⟨s1, s2, s3, s4, s5⟩ := hSw
        go_simp
        try with_reducible rfl
      try simp only [Act.put, List.setIfInBounds_toArray, List.set_cons_zero, List.set_cons_succ]
      refine wpAnyF_takes (i := 4) (v := ?_) rfl (by kernel_rfl) (fun _ _ _ h => h) (by rfl) hSd ?_ ?_
      rotate_left 1
      · intro w hSw
        obtain ⟨s1, s2, s3, s4, s5⟩ := hSw
        go_simp
        try with_reducible rfl
      try simp only [Act.put, List.setIfInBounds_toArray, List.set_cons_zero, List.set_cons_succ]
      refine wpAnyF_takes (i := 5) (v := ?_) rfl (by kernel_rfl) (fun _ _ _ h => h) (by rfl) hSd ?_ ?_
      rotate_left 1
      · intro w hSw
        obtain ⟨s1, s2, s3, s4, s5⟩ := hSw
        go_simp
        try with_reducible rfl
      try simp only [Act.put, List.setIfInBounds_toArray, List.set_cons_zero, List.set_cons_succ]
      refine wpAnyF_takes (i := 6) (v := ?_) rfl (by kernel_rfl) (fun _ _ _ h => h) (by rfl) hSd ?_ ?_
      rotate_left 1
      · intro w hSw
        obtain ⟨s1, s2, s3, s4, s5⟩ := hSw
        go_simp
        try with_reducible rfl
      try simp only [Act.put, List.setIfInBounds_toArray, List.set_cons_zero, List.set_cons_succ]
      refine wpAnyF_takes (i := 7) (v := ?_) rfl (by kernel_rfl) (fun _ _ _ h => h) (by rfl) hSd ?_ ?_
      rotate_left 1
      · intro w hSw
        obtain ⟨s1, s2, s3, s4, s5⟩ := hSw
        go_simp
        try with_reducible rfl
      try simp only [Act.put, List.setIfInBounds_toArray, List.set_cons_zero, List.set_cons_succ]
      refine wpAnyF_takes (i := 8) (v := ?_) rfl (by kernel_rfl) (fun _ _ _ h => h) (by rfl) hSd ?_ ?_
      rotate_left 1
      · intro w hSw
        obtain ⟨s1, s2, s3, s4, s5⟩ := hSw
        go_simp
        try with_reducible rfl
      try simp only [Act.put, List.setIfInBounds_toArray, List.set_cons_zero, List.set_cons_succ]
      refine wpAnyF_takes (i := 9) (v := ?_) rfl (by kernel_rfl) (fun _ _ _ h => h) (by rfl) hSd ?_ ?_
      rotate_left 1
      · intro w hSw
        obtain ⟨s1, s2, s3, s4, s5⟩ := hSw
        go_simp
        try with_reducible rfl
      try simp only [Act.put, List.setIfInBounds_toArray, List.set_cons_zero, List.set_cons_succ]
      refine wpAnyF_takes (i := 10) (v := ?_) rfl (by kernel_rfl) (fun _ _ _ h => h) (by rfl) hSd ?_ ?_
      rotate_left 1
      · intro w hSw
        obtain ⟨s1, s2, s3, s4, s5⟩ := hSw
        go_simp
        try with_reducible rfl
      try simp only [Act.put, List.setIfInBounds_toArray, List.set_cons_zero, List.set_cons_succ]
      refine wpAnyF_takes (i := 11) (v := ?_) rfl (by kernel_rfl) (fun _ _ _ h => h) (by rfl) hSd ?_ ?_
      rotate_left 1
      · intro w hSw
        obtain ⟨s1, s2, s3, s4, s5⟩ := hSw
        go_simp
        try with_reducible rfl
      try simp only [Act.put, List.setIfInBounds_toArray, List.set_cons_zero, List.set_cons_succ]
      refine wpAnyF_takes (i := 12) (v := ?_) rfl (by kernel_rfl) (fun _ _ _ h => h) (by rfl) hSd ?_ ?_
      rotate_left 1
      · intro w hSw
        obtain ⟨s1, s2, s3, s4, s5⟩ := hSw
        go_simp
        try with_reducible rfl
      try simp only [Act.put, List.setIfInBounds_toArray, List.set_cons_zero, List.set_cons_succ]
      refine wpAnyF_takes (i := 13) (v := ?_) rfl (by kernel_rfl) (fun _ _ _ h => h) (by rfl) hSd ?_ ?_
      rotate_left 1
      · intro w hSw
        obtain ⟨s1, s2, s3, s4, s5⟩ := hSw
        go_simp
        try with_reducible rfl
      try simp only [Act.put, List.setIfInBounds_toArray, List.set_cons_zero, List.set_cons_succ]
      refine wpAnyF_takes (i := 14) (v := ?_) rfl (by kernel_rfl) (fun _ _ _ h => h) (by rfl) hSd ?_ ?_
      rotate_left 1
      · intro w hSw
        obtain ⟨s1, s2, s3, s4, s5⟩ := hSw
        go_simp
        try with_reducible rfl
      try simp only [Act.put, List.setIfInBounds_toArray, List.set_cons_zero, List.set_cons_succ]
      refine wpAnyF_takes (i := 15) (v := ?_) rfl (by kernel_rfl) (fun _ _ _ h => h) (by rfl) hSd ?_ ?_
      rotate_left 1
      · intro w hSw
        obtain ⟨s1, s2, s3, s4, s5⟩ := hSw
        go_simp
        try with_reducible rfl
      try simp only [Act.put, List.setIfInBounds_toArray, List.set_cons_zero, List.set_cons_succ]
      refine wpAnyF_takes (i := 16) (v := ?_) rfl (by kernel_rfl) (fun _ _ _ h => h) (by rfl) hSd ?_ ?_
      rotate_left 1
      · intro w hSw
        obtain ⟨s1, s2, s3, s4, s5⟩ := hSw
        go_simp
        try with_reducible rfl
      try simp only [Act.put, List.setIfInBounds_toArray, List.set_cons_zero, List.set_cons_succ]
      refine wpAnyF_takes (i := 17) (v := ?_) rfl (by kernel_rfl) (fun _ _ _ h => h) (by rfl) hSd ?_ ?_
      rotate_left 1
      · intro w hSw
        obtain ⟨s1, s2, s3, s4, s5⟩ := hSw
        go_simp
        try with_reducible rfl
      try simp only [Act.put, List.setIfInBounds_toArray, List.set_cons_zero, List.set_cons_succ]
      refine wpAnyF_takes (i := 18) (v := ?_) rfl (by kernel_rfl) (fun _ _ _ h => h) (by rfl) hSd ?_ ?_
      rotate_left 1
      · intro w hSw
        obtain ⟨s1, s2, s3, s4, s5⟩ := hSw
        go_simp
        try with_reducible rfl
      try simp only [Act.put, List.setIfInBounds_toArray, List.set_cons_zero, List.set_cons_succ]
      refine wpAnyF_takes (i := 19) (v := ?_) rfl (by kernel_rfl) (fun _ _ _ h => h) (by rfl) hSd ?_ ?_
      rotate_left 1
      · intro w hSw
        obtain ⟨s1, s2, s3, s4, s5⟩ := hSw
        go_simp
        try with_reducible rfl
      try simp only [Act.put, List.setIfInBounds_toArray, List.set_cons_zero, List.set_cons_succ]
      refine wpAnyF_takes (i := 20) (v := ?_) rfl (by kernel_rfl) (fun _ _ _ h => h) (by rfl) hSd ?_ ?_
      rotate_left 1
      · intro w hSw
        obtain ⟨s1, s2, s3, s4, s5⟩ := hSw
        go_simp
        try with_reducible rfl
      try simp only [Act.put, List.setIfInBounds_toArray, List.set_cons_zero, List.set_cons_succ]
      refine wpAnyF_next (i := 21) rfl (by kernel_rfl) (fun K hK => ?_)
      go_simp
      refine hK.out _ _ (.inr ⟨below_cell hba hSd.1, below_cell hba hSd.2.1, below_cell hba hSd.2.2.1, below_cell hba hSd.2.2.2.1, below_cell hba hSd.2.2.2.2⟩) ?_
      clear hK K
      try simp only [Act.put, List.setIfInBounds_toArray, List.set_cons_zero, List.set_cons_succ]
      refine wpAnyF_next (i := 22) rfl (by kernel_rfl) (fun K hK => ?_)
      refine step_append_lies _ (by rfl) _ _ _ (by rfl) wc.heap.size 60 i0 _ 3 24 Tryd.underlying33 hi hz0 hz1 hz2 rfl (by omega) _ k _ (by rfl) (hownd.alloc _)
            ⟨wd.heap.size, 0, none⟩ 1 1 [.int .i64 lp, .int .i64 lc, .int .i64 la] (by rfl) (by rfl) (World.news_of_block (cs := #[.int .i64 lp, .int .i64 lc, .int .i64 la]) (t := 60) (fr := (0, 0)) (heap_alloc_new wd _)) (by simp [Value.oneCell'])
            (by omega) (by unfold maxLen; omega) (by omega) (by simp; omega) (wd.heap.size + 1) (by simp) ?_
      intro g cap' w1 hown1 hgrow hat hgt
      obtain ⟨r2, r0, r1, rb, rz⟩ := HR.out _ hgrow
      have s6 : w1.cell? ⟨w.heap.size, 6, none⟩ = some (.slice (some ⟨b, o, none⟩) ls.length cap0) := r0.cell 6 rfl
      obtain ⟨v0, v1, v2⟩ := DW.out
      have s0 := below_cell rb v0
      have s1 := below_cell rb v1
      have s2 := below_cell rb v2
      have m6 : w1.cell? ⟨wb.heap.size, 6, none⟩ = some (.slice c k cap) := r2.cell 6 rfl
      have mf := r2.free 6
      clear v0 v1 v2
      refine hK.out _ _ (.inr ⟨m6, s6, s0, s1, s2⟩) ?_
      clear hK K
      try simp only [Act.put, List.setIfInBounds_toArray, List.set_cons_zero, List.set_cons_succ]
      refine wpAnyF_next (i := 23) rfl (by kernel_rfl) (fun K hK => ?_)
      go_simp
      refine hK.out _ _ (.inr ⟨m6, s6, s0, s1, s2⟩) ?_
      clear hK K
      try simp only [Act.put, List.setIfInBounds_toArray, List.set_cons_zero, List.set_cons_succ]
      refine wpAnyF_next (i := 24) rfl (by kernel_rfl) (fun K hK => ?_)
      go_simp
      refine hK.out _ _ (.inl rfl) ?_
      clear hK K
      try simp only [Act.put, List.setIfInBounds_toArray, List.set_cons_zero, List.set_cons_succ]
      refine wpAnyF_done (by kernel_rfl) ?_ _
      go_wp2_with fail
      have hq := hown1.kept (grown_setCell w1 wb.heap.size 6 (.slice (some ⟨g, 0, none⟩) (k + 1) cap')) (Or.inr (by have := r2.own_ne hown1 (by decide); simpa using this))
      rw [← hN.out] at hq
      go_roundw
      case rel => exact ⟨k + 1, by omega, by go_num, _, _, hq, r2.set 6 _, r0.far 6 _ n1, r1.far 6 _ n3, rb.setCell (p := ⟨wb.heap.size, 6, none⟩) (by have := HZ.out; simp; omega) _, by simp [World.setCell]; omega⟩
      case measure => simp [intOf]; omega
    · obtain rfl : k = ls.length := by omega
      obtain ⟨c', cap', hv, g0, _, _, g3, hrow⟩ := owned_rows (f := lnRow ls) (fun i => rfl) hown
      obtain ⟨rfl, _, rfl⟩ : c = c' ∧ ls.length = ls.length ∧ cap = cap' := by simpa using hv
      have hln := Lib.hid (rows_ln hrow)
      have l0 : wr.cell? ⟨wb.heap.size, 0, none⟩ = some (.int .i64 con) := h2.cell 0 rfl
      have l1 : wr.cell? ⟨wb.heap.size, 1, none⟩ = some (.int .i64 day) := h2.cell 1 rfl
      have l2 : wr.cell? ⟨wb.heap.size, 2, none⟩ = some (.int .i64 cur) := h2.cell 2 rfl
      have l3 : wr.cell? ⟨wb.heap.size, 3, none⟩ = some (.int .i64 seq) := h2.cell 3 rfl
      have l4 : wr.cell? ⟨wb.heap.size, 4, none⟩ = some (.int .i64 per) := h2.cell 4 rfl
      have l5 : wr.cell? ⟨wb.heap.size, 5, none⟩ = some (.int .i64 ref) := h2.cell 5 rfl
      have l6 : wr.cell? ⟨wb.heap.size, 6, none⟩ = some (.slice c ls.length cap) := h2.cell 6 rfl
      obtain ⟨⟨o0, o1, o2, o3, o4, o5, o6⟩, f0, f1, f2, f3, f4, f5, f6⟩ := OBox.of_blk h1
      have G3 := Lib.hid g3
      have HN := Lib.hid (h1.own_ne hown (by decide))
      have HOWN := Lib.hid hown
      clear hrow hv g3 h0 h1 h2 hown
      go_wp2_with fail
      refine bodyPost_ret (v := entV ⟨con, day, cur, seq, per, ref⟩ c ls.length cap) ?_ rfl ?_
      · simp [results, Tryd.results12, go_sem, o0, o1, o2, o3, o4, o5, o6, entV]
      · refine ⟨c, cap, rfl, g0, hln.out.grown (grown7 _ _ _ _ _ _ _ _ _) (fun x e q => ?_), below_set7 hbl (by have := HZ.out; omega) _ _ _ _ _ _ _, fun x e => ?_, (own_base HOWN.out (by have := HZ.out; omega)).kept (grown7 _ _ _ _ _ _ _ _ _) (Or.inr HN.out)⟩
        · subst e
          exact HN.out q.symm
        · have := (G3.out x e).1
          have := HZ.out
          omega
end Go.Proofs.YtklbgcpafbjekaaDoor
