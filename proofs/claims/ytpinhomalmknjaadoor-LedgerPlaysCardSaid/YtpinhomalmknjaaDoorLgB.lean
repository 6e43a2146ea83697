/- Package ledger: New, Len, Seq, Reversed, Entry, Copy. -/
import Derived.Test.YtpinhomalmknjaaDoorLgA
import Derived.Test.YtpinhomalmknjaaDoorLgSh
import Derived.Test.YtpinhomalmknjaaDoorEntH
import Derived.Test.YtpinhomalmknjaaDoorHeldG
import Derived.Test.YtpinhomalmknjaaDoorHeldT
namespace Go.Proofs.YtpinhomalmknjaaDoor
open Go.RowKit Go.Sort Go.Shelf
set_option linter.unusedVariables false
set_option linter.unusedSimpArgs false

theorem infoEnt : (Tryd.prog.info? 27).map (fun i => (i.zero, i.size, i.bytes)) = some (some (.agg #[.int .i64 0, .int .i64 0, .int .i64 0, .int .i64 0, .int .i64 0, .int .i64 0, .slice none 0 0]), 7, 72) := by kernel_rfl
theorem En.cs_len (e : En) : e.cs.length = 7 := rfl
theorem En.cs_one : ∀ e : En, ∀ v ∈ e.cs, v.oneCell' = true := fun e v hv => by simp [En.cs] at hv; rcases hv with rfl | rfl | rfl | rfl | rfl | rfl | rfl <;> rfl

def LgEnd (w : World) (E : List En) (e : Ending) (w' : World) : Prop :=
  ∃ p bm a cap, e = .returned (.pointer (some ⟨p, 0, none⟩)) ∧ LgAt w' p bm a cap E ∧ Below w.heap.size w w' ∧ w.heap.size ≤ p ∧ w.heap.size ≤ bm
theorem lnew_ok (w : World) : Calls Tryd.prog 12 #[] w (LgEnd w []) := by
  have hmm := @run_makeMap Tryd.prog
  go_enter Tryd.func12, Tryd.ntmps12
  go_wp2_with fail
  go_ret
  have bb : Below w.heap.size w ((w.alloc (.map #[] 0)).alloc (.cells #[.slice none 0 0, .map (some w.heap.size)] 78)) := ((Below.refl _ _).alloc (Nat.le_refl _) _).alloc (by simp) _
  refine ⟨w.heap.size + 1, w.heap.size, none, 0, by simp, ⟨?_, SlAt.nil _, by simp, ?_⟩, bb, by omega, Nat.le_refl _⟩
  · have := Blk.new (w.alloc (.map #[] 0)) #[.slice none 0 0, .map (some w.heap.size)] 78
    rw [World.size_alloc] at this
    exact this
  · exact (MapAt.made OkN w).after ((Below.refl _ _).alloc (Nat.le_refl _) _)
theorem llen_ok (p bm : Nat) (a : Option Addr) (cap : Nat) (E : List En) (w : World) (h : LgAt w p bm a cap E) : Calls Tryd.prog 27 #[.pointer (some ⟨p, 0, none⟩)] w fun e w' => e = .returned (.int .i64 (E.length : Int)) ∧ w' = w := by
  have c0 : w.cell? ⟨p, 0, none⟩ = some (.slice a E.length cap) := h.blk.cell 0 rfl
  clear h
  go_enter Tryd.func27, Tryd.ntmps27
  go_wp2_with fail
  go_ret
  exact ⟨rfl, rfl⟩
theorem llen_nil (w : World) : Calls Tryd.prog 27 #[.pointer none] w fun e w' => e = .returned (.int .i64 0) ∧ w' = w := by
  go_enter Tryd.func27, Tryd.ntmps27
  go_wp2_with fail
  go_ret
  exact ⟨rfl, rfl⟩
theorem seqOf_at {L : List EnP} {x : EnP} (h : L[L.length - 1]? = some x) : seqOf L = x.s.seq := by
  unfold seqOf
  rw [List.getLast?_eq_getElem?, h]
theorem lseq_ok (p bm : Nat) (a : Option Addr) (cap : Nat) (E : List En) (w : World) (h : LgAt w p bm a cap E) (hl : E.length ≤ 1000000) : Calls Tryd.prog 28 #[.pointer (some ⟨p, 0, none⟩)] w fun e w' => e = .returned (.int .i64 (seqOf (E.map En.p))) ∧ Below w.heap.size w w' := by
  have c0 : w.cell? ⟨p, 0, none⟩ = some (.slice a E.length cap) := h.blk.cell 0 rfl
  have HL := Lib.hid (llen_ok p bm a cap E w h)
  by_cases h0 : E.length = 0
  · have he : E = [] := List.length_eq_zero_iff.1 h0
    subst he
    clear h
    go_enter Tryd.func28, Tryd.ntmps28
    go_wp2_with fail
    with_reducible refine HL.out.mono ?_
    rintro e w1 ⟨rfl, hw1⟩
    obtain rfl : w = w1 := hw1.symm
    simp only [List.length_nil] at *
    go_wp2_with fail
    go_ret
    exact ⟨rfl, Below.refl _ _⟩
  · obtain ⟨j, hj⟩ : ∃ j, E.length = j + 1 := ⟨E.length - 1, by omega⟩
    have hlt : j < E.length := by omega
    obtain ⟨x, hy⟩ : ∃ x, E[j]'hlt = x := ⟨_, rfl⟩
    have hx : E[j]? = some x := by rw [← hy]; exact List.getElem?_eq_getElem hlt
    have HE : Hid (seqOf (E.map En.p) = x.s.seq) := by
      refine seqOf_at (x := x.p) ?_
      rw [List.length_map, hj, Nat.add_sub_cancel, List.getElem?_map, hx]
      rfl
    have hR := h.sl.recs
    obtain ⟨b, o, rfl, _⟩ := hR (by omega)
    have q3 : w.cell? ⟨b, o + j * 7 + 3, none⟩ = some (.int .i64 x.s.seq) := RecsAt.cell hR rfl hlt hx (j := 3) rfl
    rw [hj] at HL c0
    have i1 : IntKind.i64.wrap (((j + 1 : Nat) : Int) - 1) = (j : Int) := by rw [IntKind.wrap_i64]; omega
    have i2 : (0 : Int) ≤ (j : Int) := by omega
    have i3 : (j : Int) < ((j + 1 : Nat) : Int) := by omega
    have i4 : decide ((0 : Int) < ((j + 1 : Nat) : Int)) = true := decide_eq_true (by omega)
    obtain ⟨N, hN⟩ : ∃ N : Nat, j + 1 = N := ⟨_, rfl⟩
    rw [hN] at HL c0 i1 i3 i4
    obtain ⟨q, hq⟩ : ∃ q, x.s.seq = q := ⟨_, rfl⟩
    rw [hq] at q3 HE
    clear h hR hx hy hj hN hq
    go_enter Tryd.func28, Tryd.ntmps28
    go_wp2_with fail
    with_reducible refine HL.out.mono ?_
    rintro e w1 ⟨rfl, hw1⟩
    obtain rfl : w = w1 := hw1.symm
    go_wp2_with fail
    go_ret
    exact ⟨by rw [HE.out]; rfl, Below.refl _ _⟩
theorem lseq_nil (w : World) : Calls Tryd.prog 28 #[.pointer none] w fun e w' => e = .returned (.int .i64 0) ∧ w' = w := by
  go_enter Tryd.func28, Tryd.ntmps28
  go_wp2_with fail
  with_reducible refine (llen_nil w).mono ?_
  rintro e w1 ⟨rfl, hw1⟩
  obtain rfl : w = w1 := hw1.symm
  go_wp2_with fail
  go_ret
  exact ⟨rfl, rfl⟩

def RevIs (w : World) (r : Option Nat) (e : Ending) (w' : World) : Prop :=
  e = .returned (.tuple #[.int .i64 (match r with | some i => (i : Int) | none => 0), .bool r.isSome]) ∧ w' = w
theorem lrev_ok (p bm : Nat) (a : Option Addr) (cap : Nat) (E : List En) (no : Int) (w : World) (h : LgAt w p bm a cap E) (hw : WL (E.map En.p)) (hno : (Lit.int .i64 no).wf = true) :
    Calls Tryd.prog 22 #[.pointer (some ⟨p, 0, none⟩), .int .i64 no] w (RevIs w (revI (E.map En.p) no)) := by
  have c1 : w.cell? ⟨p, 1, none⟩ = some (.map (some bm)) := h.blk.cell 1 rfl
  have HM := Lib.hid h.map
  have hz : ∀ w, (zeroValue 3).run Tryd.prog w = .ok (.int .i64 0) w := fun w => by kernel_rfl
  clear h
  rcases byM_cases hw no with ⟨i, hi, _, hm⟩ | ⟨hi, hm⟩
  · have HI := Lib.hid hi
    have HIn := Lib.hid hm
    rw [hi]
    clear hi hm
    go_enter Tryd.func22, Tryd.ntmps22
    go_wp2_with (at_lookup; refine wpList_look_in _ rfl _ _ 76 true rfl keyN Tryd.underlying76 rfl HM.out (.int .i64 no) (.int .i64 (i : Int)) rfl ⟨_, rfl, hno⟩ HIn.out ?_)
    go_ret2
    exact ⟨rfl, rfl⟩
  · have HOut := Lib.hid hm
    rw [hi]
    clear hi hm
    go_enter Tryd.func22, Tryd.ntmps22
    go_wp2_with (at_lookup; refine wpList_look_out _ rfl _ _ 76 true rfl keyN Tryd.underlying76 hz rfl HM.out (.int .i64 no) rfl ⟨_, rfl, hno⟩ HOut.out ?_)
    go_ret2
    exact ⟨rfl, rfl⟩
theorem lrev_nil (no : Int) (w : World) : Calls Tryd.prog 22 #[.pointer none, .int .i64 no] w (RevIs w none) := by
  go_enter Tryd.func22, Tryd.ntmps22
  go_wp2_with fail
  go_ret2
  exact ⟨rfl, rfl⟩

end Go.Proofs.YtpinhomalmknjaaDoor
