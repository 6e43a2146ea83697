/- Package ledger: check. -/
import Derived.Test.YtpinhomalmknjaaDoorLgM
namespace Go.Proofs.YtpinhomalmknjaaDoor
open Go.RowKit Go.Sort Go.Shelf
set_option linter.unusedVariables false
set_option linter.unusedSimpArgs false

def CkEnd (w : World) (n : Int) (e : Ending) (w' : World) : Prop := e = .returned (.int .i64 n) ∧ Below w.heap.size w w'
theorem wrongE_bad {L : List EnP} {x : EnP} (h : checkE x.s x.ls ≠ 0) : wrongE L x = checkE x.s x.ls := by unfold wrongE; rw [if_pos h]
theorem wrongE_new {L : List EnP} {x : EnP} (h : checkE x.s x.ls = 0) (hr : x.s.ref = -1) : wrongE L x = 0 := by unfold wrongE; rw [if_neg (by simpa using h), if_pos hr]
theorem wrongE_out {L : List EnP} {x : EnP} (h : checkE x.s x.ls = 0) (hr : x.s.ref ≠ -1) (ho : L[x.s.ref.toNat]? = none) : wrongE L x = 16 := by unfold wrongE; rw [if_neg (by simpa using h), if_neg hr, ho]
theorem wrongE_in {L : List EnP} {x old : EnP} (h : checkE x.s x.ls = 0) (hr : x.s.ref ≠ -1) (ho : L[x.s.ref.toNat]? = some old) : wrongE L x = if (revI L x.s.ref).isSome then 17 else if old.s.ref ≠ -1 then 24 else if mirB old x then 0 else 20 := by unfold wrongE; rw [if_neg (by simpa using h), if_neg hr, ho]
set_option maxHeartbeats 4000000 in
theorem lck_bad (p bm : Nat) (a : Option Addr) (cap : Nat) (E : List En) (con day cur seq per ref : Int) (la : Option Addr) (lc : Nat) (ls : List Ln) (w : World) (hR : RulesAt w) (h : LgAt w p bm a cap E) (hw : WL (E.map En.p)) (hX : EnOk w ⟨⟨con, day, cur, seq, per, ref⟩, la, lc, ls⟩) (hc : checkE ⟨con, day, cur, seq, per, ref⟩ ls ≠ 0) :
    Calls Tryd.prog 48 #[.pointer (some ⟨p, 0, none⟩), entV ⟨con, day, cur, seq, per, ref⟩ la ls.length lc] w (CkEnd w (wrongE (E.map En.p) ⟨⟨con, day, cur, seq, per, ref⟩, ls⟩)) := by
  rw [wrongE_bad hc]
  obtain ⟨wa, hwa⟩ : ∃ wa, w.alloc (.cells (entCs ⟨con, day, cur, seq, per, ref⟩ la ls.length lc) 27) = wa := ⟨_, rfl⟩
  have hba : Below w.heap.size w wa := by rw [← hwa]; exact (Below.refl _ _).alloc (Nat.le_refl _) _
  have HB : Hid (EBox wa w.heap.size ⟨con, day, cur, seq, per, ref⟩ la ls.length lc) := by rw [← hwa]; exact EBox.new _ _ _ _ _ _
  have hck := check_ok ⟨con, day, cur, seq, per, ref⟩ la lc ls wa (hR.after hba) (hX.ln.after hba) (Nat.le_trans hX.few (by omega)) hX.wf
  unfold entV at hck
  have HCk := Lib.hid hck
  clear hck
  have HLg := Lib.hid (h.after hba)
  have HX := Lib.hid (hX.after hba)
  have HBA := Lib.hid hba
  have HWL := Lib.hid hw
  obtain ⟨p0, p1, p2, p3, p4, p5, p6⟩ := id HB.out
  dsimp only at p0 p1 p2 p3 p4 p5 p6
  unfold entCs at hwa
  unfold entV
  clear hR hX h hw hba
  go_enter Tryd.func48, Tryd.ntmps48
  go_wp2_with fail
  clear hwa
  with_reducible refine HCk.out.mono ?_
  rintro e w1 ⟨rfl, hb1⟩
  obtain ⟨p0, p1, p2, p3, p4, p5, p6⟩ := HB.out.after hb1
  dsimp only at p0 p1 p2 p3 p4 p5 p6
  have HN := Lib.hid hc
  obtain ⟨c, hcc⟩ : ∃ c, checkE ⟨con, day, cur, seq, per, ref⟩ ls = c := ⟨_, rfl⟩
  dsimp only
  rw [hcc] at HN ⊢
  have d1 : (c == 0) = false := by rw [beq_eq_false_iff_ne]; exact HN.out
  have HCC := Lib.hid hcc
  clear hc hcc HCk
  go_wp2_with fail
  go_ret
  exact ⟨by rw [HCC.out]; rfl, HBA.out.trans (hb1.mono HBA.out.size)⟩
set_option maxHeartbeats 4000000 in
theorem lck_new (p bm : Nat) (a : Option Addr) (cap : Nat) (E : List En) (con day cur seq per : Int) (la : Option Addr) (lc : Nat) (ls : List Ln) (w : World) (hR : RulesAt w) (h : LgAt w p bm a cap E) (hw : WL (E.map En.p)) (hX : EnOk w ⟨⟨con, day, cur, seq, per, -1⟩, la, lc, ls⟩) (hc : checkE ⟨con, day, cur, seq, per, -1⟩ ls = 0) :
    Calls Tryd.prog 48 #[.pointer (some ⟨p, 0, none⟩), entV ⟨con, day, cur, seq, per, -1⟩ la ls.length lc] w (CkEnd w (wrongE (E.map En.p) ⟨⟨con, day, cur, seq, per, -1⟩, ls⟩)) := by
  rw [wrongE_new hc rfl]
  obtain ⟨wa, hwa⟩ : ∃ wa, w.alloc (.cells (entCs ⟨con, day, cur, seq, per, -1⟩ la ls.length lc) 27) = wa := ⟨_, rfl⟩
  have hba : Below w.heap.size w wa := by rw [← hwa]; exact (Below.refl _ _).alloc (Nat.le_refl _) _
  have HB : Hid (EBox wa w.heap.size ⟨con, day, cur, seq, per, -1⟩ la ls.length lc) := by rw [← hwa]; exact EBox.new _ _ _ _ _ _
  have hck := check_ok ⟨con, day, cur, seq, per, -1⟩ la lc ls wa (hR.after hba) (hX.ln.after hba) (Nat.le_trans hX.few (by omega)) hX.wf
  unfold entV at hck
  have HCk := Lib.hid hck
  clear hck
  have HLg := Lib.hid (h.after hba)
  have HX := Lib.hid (hX.after hba)
  have HBA := Lib.hid hba
  have HWL := Lib.hid hw
  obtain ⟨p0, p1, p2, p3, p4, p5, p6⟩ := id HB.out
  dsimp only at p0 p1 p2 p3 p4 p5 p6
  unfold entCs at hwa
  unfold entV
  clear hR hX h hw hba
  go_enter Tryd.func48, Tryd.ntmps48
  go_wp2_with fail
  clear hwa
  with_reducible refine HCk.out.mono ?_
  rintro e w1 ⟨rfl, hb1⟩
  obtain ⟨p0, p1, p2, p3, p4, p5, p6⟩ := HB.out.after hb1
  dsimp only at p0 p1 p2 p3 p4 p5 p6
  rw [hc]
  clear hc HCk
  go_wp2_with fail
  go_ret
  exact ⟨rfl, HBA.out.trans (hb1.mono HBA.out.size)⟩

set_option maxHeartbeats 4000000 in
theorem lck_out (p bm : Nat) (a : Option Addr) (cap : Nat) (E : List En) (con day cur seq per ref : Int) (la : Option Addr) (lc : Nat) (ls : List Ln) (w : World) (hR : RulesAt w) (h : LgAt w p bm a cap E) (hw : WL (E.map En.p)) (hX : EnOk w ⟨⟨con, day, cur, seq, per, ref⟩, la, lc, ls⟩) (hc : checkE ⟨con, day, cur, seq, per, ref⟩ ls = 0) (hr : ref ≠ -1) (ho : (E.length : Int) ≤ ref) (hwf : (Lit.int .i64 ref).wf = true) :
    Calls Tryd.prog 48 #[.pointer (some ⟨p, 0, none⟩), entV ⟨con, day, cur, seq, per, ref⟩ la ls.length lc] w (CkEnd w (wrongE (E.map En.p) ⟨⟨con, day, cur, seq, per, ref⟩, ls⟩)) := by
  have hlk : ∀ W, MapAt OkN W bm (byM (E.map En.p)) → (Instr.lookup 76 (.map (some bm)) (.int .i64 ref) true).run Tryd.prog W = .ok (.tuple #[.int .i64 0, .bool false]) W := fun W hM => by
    have hno : ∀ v, (Value.int .i64 ref, v) ∉ byM (E.map En.p) := fun v hv => by
      obtain ⟨i, e, h1, h2, h3, _⟩ := byM_mem.1 hv
      simp only [Value.int.injEq, true_and] at h3
      have := hw.refs h1 h2
      have h4 := (List.getElem?_eq_some_iff.1 h1).1
      rw [List.length_map] at h4
      omega
    have := hM.look_out (P := Tryd.prog) keyN Tryd.underlying76 (z := .int .i64 0) (fun w => by kernel_rfl) ⟨ref, rfl, hwf⟩ hno true
    simpa using this
  rw [wrongE_out hc hr (List.getElem?_eq_none (by rw [List.length_map]; show E.length ≤ ref.toNat; omega))]
  have HLk := Lib.hid hlk
  have d2 : (ref == -1) = false := by rw [beq_eq_false_iff_ne]; exact hr
  clear hlk hr
  obtain ⟨wa, hwa⟩ : ∃ wa, w.alloc (.cells (entCs ⟨con, day, cur, seq, per, ref⟩ la ls.length lc) 27) = wa := ⟨_, rfl⟩
  have hba : Below w.heap.size w wa := by rw [← hwa]; exact (Below.refl _ _).alloc (Nat.le_refl _) _
  have HB : Hid (EBox wa w.heap.size ⟨con, day, cur, seq, per, ref⟩ la ls.length lc) := by rw [← hwa]; exact EBox.new _ _ _ _ _ _
  have hck := check_ok ⟨con, day, cur, seq, per, ref⟩ la lc ls wa (hR.after hba) (hX.ln.after hba) (Nat.le_trans hX.few (by omega)) hX.wf
  unfold entV at hck
  have HCk := Lib.hid hck
  clear hck
  have HLg := Lib.hid (h.after hba)
  have HX := Lib.hid (hX.after hba)
  have HBA := Lib.hid hba
  have HWL := Lib.hid hw
  obtain ⟨p0, p1, p2, p3, p4, p5, p6⟩ := id HB.out
  dsimp only at p0 p1 p2 p3 p4 p5 p6
  unfold entCs at hwa
  unfold entV
  clear hR hX h hw hba
  go_enter Tryd.func48, Tryd.ntmps48
  go_wp2_with fail
  clear hwa
  with_reducible refine HCk.out.mono ?_
  rintro e w1 ⟨rfl, hb1⟩
  obtain ⟨p0, p1, p2, p3, p4, p5, p6⟩ := HB.out.after hb1
  dsimp only at p0 p1 p2 p3 p4 p5 p6
  rw [hc]
  clear hc HCk
  have hL1 := HLg.out.after hb1
  have HLg1 := Lib.hid hL1
  have HCx := Lib.hid (lent_out p bm a cap E w1 hL1 ref (.inr ho))
  clear hL1 ho
  go_wp2_with fail
  with_reducible refine HCx.out.mono ?_
  rintro e w2 ⟨rfl, hb2⟩
  dsimp only [entV, zero6]
  obtain ⟨p0, p1, p2, p3, p4, p5, p6⟩ := (HB.out.after hb1).after hb2
  dsimp only at p0 p1 p2 p3 p4 p5 p6
  have HLg2 := Lib.hid (HLg1.out.after hb2)
  have c1 : w2.cell? ⟨p, 1, none⟩ = some (.map (some bm)) := HLg2.out.blk.cell 1 rfl
  have HB2 := Lib.hid (HBA.out.trans ((hb1.trans (hb2.mono hb1.size)).mono HBA.out.size))
  obtain ⟨w3, hw3⟩ : ∃ W, w2.alloc (.cells #[.int .i64 0, .int .i64 0, .int .i64 0, .int .i64 0, .int .i64 0, .int .i64 0, .slice none 0 0] 27) = W := ⟨_, rfl⟩
  have hb3 : Below w2.heap.size w2 w3 := by rw [← hw3]; exact (Below.refl _ _).alloc (Nat.le_refl _) _
  have HW3 := Lib.hid hw3
  have HB3 := Lib.hid hb3
  have HB2w := Lib.hid ((HB.out.after hb1).after hb2)
  clear hw3 hb3 hb1 hb2 HCx
  go_wp2_with fail
  rw [HW3.out]
  have bd : Below w2.heap.size w2 w3.drew := HB3.out.trans ((Below.refl w3.heap.size w3).drew.mono HB3.out.size)
  go_region_held3 (fun w' => w'.cell? ⟨p, 1, none⟩ = some (.map (some bm)) ∧ w'.cell? ⟨w.heap.size, 5, none⟩ = some (.int .i64 ref) ∧ (Instr.lookup 76 (.map (some bm)) (.int .i64 ref) true).run Tryd.prog w' = .ok (.tuple #[.int .i64 0, .bool false]) w')
    (first | exact ⟨below_cell bd c1, below_cell bd p5, HLk.out _ (HLg2.out.map.after bd)⟩)
    (fail)
  go_wp2_with fail
  go_ret
  exact ⟨rfl, HB2.out.trans (bd.mono HB2.out.size)⟩

end Go.Proofs.YtpinhomalmknjaaDoor
