/- Package entry: Mirrors of any two, Same of one entry twice.  -/
import Derived.Test.YtmjgcenhgpkhiaaDoorMgF
namespace Go.Proofs.YtmjgcenhgpkhiaaDoor
open Go.RowKit Go.Sort Go.Shelf
set_option linter.unusedVariables false
set_option linter.unusedSimpArgs false

set_option maxHeartbeats 4000000 in
theorem mirrors_no (s t : Six) (a b : Option Addr) (ca cb n m : Nat) (w : World) (htag : s.tag ≠ t.tag) :
    Calls Tryd.prog 63 #[entV s a n ca, entV t b m cb] w fun e w' => e = .returned (.bool false) ∧ Below w.heap.size w w' := by
  have ht := tag_eq s.con s.day s.cur t.con t.day t.cur
  rw [show decide ((⟨s.con, s.day, s.cur⟩ : Ln) = ⟨t.con, t.day, t.cur⟩) = false from by rw [decide_eq_false_iff_not]; exact htag] at ht
  unfold entV
  obtain ⟨wa, hwa⟩ : ∃ wa, w.alloc (.cells (entCs s a n ca) 26) = wa := ⟨_, rfl⟩
  have hba : Below w.heap.size w wa := by rw [← hwa]; exact (Below.refl _ _).alloc (Nat.le_refl _) _
  have box1 : EBox wa w.heap.size s a n ca := by rw [← hwa]; exact EBox.new _ _ _ _ _ _
  obtain ⟨wb, hwb⟩ : ∃ wb, wa.alloc (.cells (entCs t b m cb) 26) = wb := ⟨_, rfl⟩
  have hbb : Below wa.heap.size wa wb := by rw [← hwb]; exact (Below.refl _ _).alloc (Nat.le_refl _) _
  have box2 : EBox wb wa.heap.size t b m cb := by rw [← hwb]; exact EBox.new _ _ _ _ _ _
  have HBW : Hid (Below w.heap.size w wb) := hba.trans (hbb.mono hba.size)
  have box1' := box1.after hbb
  have B1 := Lib.hid box1'
  have B2 := Lib.hid box2
  unfold entCs at hwa hwb
  clear htag hba hbb box1
  obtain ⟨p0, p1, p2, _, _, _, p6⟩ := id box1'
  obtain ⟨q0, q1, q2, _, _, _, q6⟩ := id box2
  clear box1' box2
  go_enter Tryd.func63, Tryd.ntmps63
  go_wp2_with (go_quiet (fail))
  go_ret
  exact ⟨rfl, HBW.out.trans (below_draws _ _ |>.mono HBW.out.size)⟩
theorem mirrors_any (x y : EnP) (a b : Option Addr) (ca cb : Nat) (w : World) (hx : EnOk w ⟨x.s, a, ca, x.ls⟩) (hy : EnOk w ⟨y.s, b, cb, y.ls⟩) (hc : checkE x.s x.ls = 0) :
    Calls Tryd.prog 63 #[entV x.s a x.ls.length ca, entV y.s b y.ls.length cb] w fun e w' => e = .returned (.bool (mirB x y)) ∧ Below w.heap.size w w' := by
  by_cases h : x.s.tag = y.s.tag
  · have := mirrors_ok x.s y.s a b ca cb x.ls y.ls w h hx.ln hy.ln (Nat.le_trans hx.few (by omega)) (Nat.le_trans hy.few (by omega)) (fun e => hx.nil e) (fits_min (check_fits hc) hx.wf)
    unfold mirB
    rw [decide_eq_true h, Bool.true_and]
    exact this
  · have := mirrors_no x.s y.s a b ca cb x.ls.length y.ls.length w h
    unfold mirB
    rw [decide_eq_false h, Bool.false_and]
    exact this

set_option maxHeartbeats 4000000 in
theorem same_yes (s : Six) (a b : Option Addr) (ca cb : Nat) (xs : List Ln) (w : World) (hx : LnAt w a xs) (hy : LnAt w b xs) (hl : xs.length ≤ 1000) :
    Calls Tryd.prog 12 #[entV s a xs.length ca, entV s b xs.length cb] w fun e w' => e = .returned (.bool true) ∧ Below w.heap.size w w' := by
  obtain ⟨con, day, cur, seq, per, ref⟩ := s
  have ht := tag_eq con day cur con day cur
  rw [show decide ((⟨con, day, cur⟩ : Ln) = ⟨con, day, cur⟩) = true from decide_eq_true rfl] at ht
  have e1 : (seq == seq) = true := beq_self_eq_true _
  have e2 : (per == per) = true := beq_self_eq_true _
  have e3 : (ref == ref) = true := beq_self_eq_true _
  unfold entV
  obtain ⟨wa, hwa⟩ : ∃ wa, w.alloc (.cells (entCs ⟨con, day, cur, seq, per, ref⟩ a xs.length ca) 26) = wa := ⟨_, rfl⟩
  have hba : Below w.heap.size w wa := by rw [← hwa]; exact (Below.refl _ _).alloc (Nat.le_refl _) _
  have box1 : EBox wa w.heap.size ⟨con, day, cur, seq, per, ref⟩ a xs.length ca := by rw [← hwa]; exact EBox.new _ _ _ _ _ _
  obtain ⟨wb, hwb⟩ : ∃ wb, wa.alloc (.cells (entCs ⟨con, day, cur, seq, per, ref⟩ b xs.length cb) 26) = wb := ⟨_, rfl⟩
  have hbb : Below wa.heap.size wa wb := by rw [← hwb]; exact (Below.refl _ _).alloc (Nat.le_refl _) _
  have box2 : EBox wb wa.heap.size ⟨con, day, cur, seq, per, ref⟩ b xs.length cb := by rw [← hwb]; exact EBox.new _ _ _ _ _ _
  have hbw : Below w.heap.size w wb := hba.trans (hbb.mono hba.size)
  have HBW := Lib.hid hbw
  have box1' := box1.after hbb
  have he := equal_ok a b ca cb xs xs wb (hx.after hbw) (hy.after hbw) (by omega) (by omega)
  rw [decide_eq_true rfl] at he
  have HE := Lib.hid he
  clear he
  unfold entCs at hwa hwb
  clear hba hbb box1 hbw hx hy
  obtain ⟨p0, p1, p2, p3, p4, p5, p6⟩ := id box1'
  obtain ⟨q0, q1, q2, q3, q4, q5, q6⟩ := id box2
  clear box1' box2
  dsimp only at p0 p1 p2 p3 p4 p5 p6 q0 q1 q2 q3 q4 q5 q6
  go_enter Tryd.func12, Tryd.ntmps12
  go_wp2_with fail
  with_reducible refine HE.out.mono ?_
  rintro e w1 ⟨rfl, hb1⟩
  go_wp2_with fail
  go_ret
  exact ⟨rfl, HBW.out.trans (hb1.mono HBW.out.size)⟩

end Go.Proofs.YtmjgcenhgpkhiaaDoor
namespace Go.Proofs.YtmjgcenhgpkhiaaDoor
open Go.RowKit Go.Sort Go.Shelf
set_option linter.unusedVariables false
set_option linter.unusedSimpArgs false

def CkEnd (w : World) (n : Int) (e : Ending) (w' : World) : Prop := e = .returned (.int .i64 n) ∧ Below w.heap.size w w'
theorem wrongE_bad {L : List EnP} {x : EnP} (h : checkE x.s x.ls ≠ 0) : wrongE L x = checkE x.s x.ls := by unfold wrongE; rw [if_pos h]
theorem wrongE_new {L : List EnP} {x : EnP} (h : checkE x.s x.ls = 0) (hr : x.s.ref = -1) : wrongE L x = 0 := by unfold wrongE; rw [if_neg (by simpa using h), if_pos hr]
theorem wrongE_out {L : List EnP} {x : EnP} (h : checkE x.s x.ls = 0) (hr : x.s.ref ≠ -1) (ho : L[x.s.ref.toNat]? = none) : wrongE L x = 16 := by unfold wrongE; rw [if_neg (by simpa using h), if_neg hr, ho]
theorem wrongE_in {L : List EnP} {x old : EnP} (h : checkE x.s x.ls = 0) (hr : x.s.ref ≠ -1) (ho : L[x.s.ref.toNat]? = some old) : wrongE L x = if (revI L x.s.ref).isSome then 17 else if old.s.ref ≠ -1 then 24 else if mirB old x then 0 else 20 := by unfold wrongE; rw [if_neg (by simpa using h), if_neg hr, ho]
set_option maxHeartbeats 4000000 in
theorem lck_bad (p bm : Nat) (a : Option Addr) (cap : Nat) (E : List En) (con day cur seq per ref : Int) (la : Option Addr) (lc : Nat) (ls : List Ln) (w : World) (hR : RulesAt w) (h : LgAt w p bm a cap E) (hw : WL (E.map En.p)) (hX : EnOk w ⟨⟨con, day, cur, seq, per, ref⟩, la, lc, ls⟩) (hc : checkE ⟨con, day, cur, seq, per, ref⟩ ls ≠ 0) :
    Calls Tryd.prog 54 #[.pointer (some ⟨p, 0, none⟩), entV ⟨con, day, cur, seq, per, ref⟩ la ls.length lc] w (CkEnd w (wrongE (E.map En.p) ⟨⟨con, day, cur, seq, per, ref⟩, ls⟩)) := by
  rw [wrongE_bad hc]
  obtain ⟨wa, hwa⟩ : ∃ wa, w.alloc (.cells (entCs ⟨con, day, cur, seq, per, ref⟩ la ls.length lc) 26) = wa := ⟨_, rfl⟩
  have hba : Below w.heap.size w wa := by rw [← hwa]; exact (Below.refl _ _).alloc (Nat.le_refl _) _
  have HB : Hid (EBox wa w.heap.size ⟨con, day, cur, seq, per, ref⟩ la ls.length lc) := by rw [← hwa]; exact EBox.new _ _ _ _ _ _
  have hck := check_ok ⟨con, day, cur, seq, per, ref⟩ la lc ls wa (hR.after hba) (hX.ln.after hba) (Nat.le_trans hX.few (by omega)) hX.wf
  unfold entV at hck
  have HCk := Lib.hid hck
  clear hck
  have HLg := Lib.hid (h.after hba)
  have HX := Lib.hid (hX.after hba)
  have HBA := Lib.hid hba
  have HWL := Lib.hid hw
  obtain ⟨p0, p1, p2, p3, p4, p5, p6⟩ := id HB.out
  dsimp only at p0 p1 p2 p3 p4 p5 p6
  unfold entCs at hwa
  unfold entV
  clear hR hX h hw hba
  go_enter Tryd.func54, Tryd.ntmps54
  go_wp2_with fail
  clear hwa
  with_reducible refine HCk.out.mono ?_
  rintro e w1 ⟨rfl, hb1⟩
  obtain ⟨p0, p1, p2, p3, p4, p5, p6⟩ := HB.out.after hb1
  dsimp only at p0 p1 p2 p3 p4 p5 p6
  have HN := Lib.hid hc
  obtain ⟨c, hcc⟩ : ∃ c, checkE ⟨con, day, cur, seq, per, ref⟩ ls = c := ⟨_, rfl⟩
  dsimp only
  rw [hcc] at HN ⊢
  have d1 : (c == 0) = false := by rw [beq_eq_false_iff_ne]; exact HN.out
  have HCC := Lib.hid hcc
  clear hc hcc HCk
  go_wp2_with fail
  go_ret
  exact ⟨by rw [HCC.out]; rfl, HBA.out.trans (hb1.mono HBA.out.size)⟩
set_option maxHeartbeats 4000000 in
theorem lck_new (p bm : Nat) (a : Option Addr) (cap : Nat) (E : List En) (con day cur seq per : Int) (la : Option Addr) (lc : Nat) (ls : List Ln) (w : World) (hR : RulesAt w) (h : LgAt w p bm a cap E) (hw : WL (E.map En.p)) (hX : EnOk w ⟨⟨con, day, cur, seq, per, -1⟩, la, lc, ls⟩) (hc : checkE ⟨con, day, cur, seq, per, -1⟩ ls = 0) :
    Calls Tryd.prog 54 #[.pointer (some ⟨p, 0, none⟩), entV ⟨con, day, cur, seq, per, -1⟩ la ls.length lc] w (CkEnd w (wrongE (E.map En.p) ⟨⟨con, day, cur, seq, per, -1⟩, ls⟩)) := by
  rw [wrongE_new hc rfl]
  obtain ⟨wa, hwa⟩ : ∃ wa, w.alloc (.cells (entCs ⟨con, day, cur, seq, per, -1⟩ la ls.length lc) 26) = wa := ⟨_, rfl⟩
  have hba : Below w.heap.size w wa := by rw [← hwa]; exact (Below.refl _ _).alloc (Nat.le_refl _) _
  have HB : Hid (EBox wa w.heap.size ⟨con, day, cur, seq, per, -1⟩ la ls.length lc) := by rw [← hwa]; exact EBox.new _ _ _ _ _ _
  have hck := check_ok ⟨con, day, cur, seq, per, -1⟩ la lc ls wa (hR.after hba) (hX.ln.after hba) (Nat.le_trans hX.few (by omega)) hX.wf
  unfold entV at hck
  have HCk := Lib.hid hck
  clear hck
  have HLg := Lib.hid (h.after hba)
  have HX := Lib.hid (hX.after hba)
  have HBA := Lib.hid hba
  have HWL := Lib.hid hw
  obtain ⟨p0, p1, p2, p3, p4, p5, p6⟩ := id HB.out
  dsimp only at p0 p1 p2 p3 p4 p5 p6
  unfold entCs at hwa
  unfold entV
  clear hR hX h hw hba
  go_enter Tryd.func54, Tryd.ntmps54
  go_wp2_with fail
  clear hwa
  with_reducible refine HCk.out.mono ?_
  rintro e w1 ⟨rfl, hb1⟩
  obtain ⟨p0, p1, p2, p3, p4, p5, p6⟩ := HB.out.after hb1
  dsimp only at p0 p1 p2 p3 p4 p5 p6
  rw [hc]
  clear hc HCk
  go_wp2_with fail
  go_ret
  exact ⟨rfl, HBA.out.trans (hb1.mono HBA.out.size)⟩

set_option maxHeartbeats 4000000 in
theorem lck_out (p bm : Nat) (a : Option Addr) (cap : Nat) (E : List En) (con day cur seq per ref : Int) (la : Option Addr) (lc : Nat) (ls : List Ln) (w : World) (hR : RulesAt w) (h : LgAt w p bm a cap E) (hw : WL (E.map En.p)) (hX : EnOk w ⟨⟨con, day, cur, seq, per, ref⟩, la, lc, ls⟩) (hc : checkE ⟨con, day, cur, seq, per, ref⟩ ls = 0) (hr : ref ≠ -1) (ho : (E.length : Int) ≤ ref) (hwf : (Lit.int .i64 ref).wf = true) :
    Calls Tryd.prog 54 #[.pointer (some ⟨p, 0, none⟩), entV ⟨con, day, cur, seq, per, ref⟩ la ls.length lc] w (CkEnd w (wrongE (E.map En.p) ⟨⟨con, day, cur, seq, per, ref⟩, ls⟩)) := by
  have hlk : ∀ W, MapAt OkN W bm (byM (E.map En.p)) → (Instr.lookup 85 (.map (some bm)) (.int .i64 ref) true).run Tryd.prog W = .ok (.tuple #[.int .i64 0, .bool false]) W := fun W hM => by
    have hno : ∀ v, (Value.int .i64 ref, v) ∉ byM (E.map En.p) := fun v hv => by
      obtain ⟨i, e, h1, h2, h3, _⟩ := byM_mem.1 hv
      simp only [Value.int.injEq, true_and] at h3
      have := hw.refs h1 h2
      have h4 := (List.getElem?_eq_some_iff.1 h1).1
      rw [List.length_map] at h4
      omega
    have := hM.look_out (P := Tryd.prog) keyN Tryd.underlying85 (z := .int .i64 0) (fun w => by kernel_rfl) ⟨ref, rfl, hwf⟩ hno true
    simpa using this
  rw [wrongE_out hc hr (List.getElem?_eq_none (by rw [List.length_map]; show E.length ≤ ref.toNat; omega))]
  have HLk := Lib.hid hlk
  have d2 : (ref == -1) = false := by rw [beq_eq_false_iff_ne]; exact hr
  clear hlk hr
  obtain ⟨wa, hwa⟩ : ∃ wa, w.alloc (.cells (entCs ⟨con, day, cur, seq, per, ref⟩ la ls.length lc) 26) = wa := ⟨_, rfl⟩
  have hba : Below w.heap.size w wa := by rw [← hwa]; exact (Below.refl _ _).alloc (Nat.le_refl _) _
  have HB : Hid (EBox wa w.heap.size ⟨con, day, cur, seq, per, ref⟩ la ls.length lc) := by rw [← hwa]; exact EBox.new _ _ _ _ _ _
  have hck := check_ok ⟨con, day, cur, seq, per, ref⟩ la lc ls wa (hR.after hba) (hX.ln.after hba) (Nat.le_trans hX.few (by omega)) hX.wf
  unfold entV at hck
  have HCk := Lib.hid hck
  clear hck
  have HLg := Lib.hid (h.after hba)
  have HX := Lib.hid (hX.after hba)
  have HBA := Lib.hid hba
  have HWL := Lib.hid hw
  obtain ⟨p0, p1, p2, p3, p4, p5, p6⟩ := id HB.out
  dsimp only at p0 p1 p2 p3 p4 p5 p6
  unfold entCs at hwa
  unfold entV
  clear hR hX h hw hba
  go_enter Tryd.func54, Tryd.ntmps54
  go_wp2_with fail
  clear hwa
  with_reducible refine HCk.out.mono ?_
  rintro e w1 ⟨rfl, hb1⟩
  obtain ⟨p0, p1, p2, p3, p4, p5, p6⟩ := HB.out.after hb1
  dsimp only at p0 p1 p2 p3 p4 p5 p6
  rw [hc]
  clear hc HCk
  have hL1 := HLg.out.after hb1
  have HLg1 := Lib.hid hL1
  have HCx := Lib.hid (lent_out p bm a cap E w1 hL1 ref (.inr ho))
  clear hL1 ho
  go_wp2_with fail
  with_reducible refine HCx.out.mono ?_
  rintro e w2 ⟨rfl, hb2⟩
  dsimp only [entV, zero6]
  obtain ⟨p0, p1, p2, p3, p4, p5, p6⟩ := (HB.out.after hb1).after hb2
  dsimp only at p0 p1 p2 p3 p4 p5 p6
  have HLg2 := Lib.hid (HLg1.out.after hb2)
  have c1 : w2.cell? ⟨p, 1, none⟩ = some (.map (some bm)) := HLg2.out.blk.cell 1 rfl
  have HB2 := Lib.hid (HBA.out.trans ((hb1.trans (hb2.mono hb1.size)).mono HBA.out.size))
  obtain ⟨w3, hw3⟩ : ∃ W, w2.alloc (.cells #[.int .i64 0, .int .i64 0, .int .i64 0, .int .i64 0, .int .i64 0, .int .i64 0, .slice none 0 0] 26) = W := ⟨_, rfl⟩
  have hb3 : Below w2.heap.size w2 w3 := by rw [← hw3]; exact (Below.refl _ _).alloc (Nat.le_refl _) _
  have HW3 := Lib.hid hw3
  have HB3 := Lib.hid hb3
  have HB2w := Lib.hid ((HB.out.after hb1).after hb2)
  clear hw3 hb3 hb1 hb2 HCx
  go_wp2_with fail
  rw [HW3.out]
  have bd : Below w2.heap.size w2 w3.drew := HB3.out.trans ((Below.refl w3.heap.size w3).drew.mono HB3.out.size)
  go_region_held3 (fun w' => w'.cell? ⟨p, 1, none⟩ = some (.map (some bm)) ∧ w'.cell? ⟨w.heap.size, 5, none⟩ = some (.int .i64 ref) ∧ (Instr.lookup 85 (.map (some bm)) (.int .i64 ref) true).run Tryd.prog w' = .ok (.tuple #[.int .i64 0, .bool false]) w')
    (first | exact ⟨below_cell bd c1, below_cell bd p5, HLk.out _ (HLg2.out.map.after bd)⟩)
    (fail)
  go_wp2_with fail
  go_ret
  exact ⟨rfl, HB2.out.trans (bd.mono HB2.out.size)⟩

end Go.Proofs.YtmjgcenhgpkhiaaDoor
namespace Go.Proofs.YtmjgcenhgpkhiaaDoor
open Go.RowKit Go.Sort Go.Shelf
set_option linter.unusedVariables false
set_option linter.unusedSimpArgs false

set_option maxHeartbeats 8000000 in
theorem lck_in (p bm : Nat) (a : Option Addr) (cap : Nat) (E : List En) (con day cur seq per ref : Int) (la : Option Addr) (lc : Nat) (ls : List Ln) (w : World) (hR : RulesAt w) (h : LgAt w p bm a cap E) (hl : E.length ≤ 1000000) (hw : WL (E.map En.p)) (hX : EnOk w ⟨⟨con, day, cur, seq, per, ref⟩, la, lc, ls⟩) (hc : checkE ⟨con, day, cur, seq, per, ref⟩ ls = 0) (hr : ref ≠ -1) (j : Nat) (hj : ref = (j : Int)) (old : En) (ho : E[j]? = some old) (hwf : (Lit.int .i64 ref).wf = true) :
    Calls Tryd.prog 54 #[.pointer (some ⟨p, 0, none⟩), entV ⟨con, day, cur, seq, per, ref⟩ la ls.length lc] w (CkEnd w (wrongE (E.map En.p) ⟨⟨con, day, cur, seq, per, ref⟩, ls⟩)) := by
  obtain ⟨n, hlk⟩ : ∃ (n : Int), (∀ W, MapAt OkN W bm (byM (E.map En.p)) → (Instr.lookup 85 (.map (some bm)) (.int .i64 ref) true).run Tryd.prog W = .ok (.tuple #[.int .i64 n, .bool (revI (E.map En.p) ref).isSome]) W) := by
    rcases byM_cases hw ref with ⟨i, hi, _, hm⟩ | ⟨hi, hm⟩
    · refine ⟨i, fun W hM => ?_⟩
      rw [hi]
      have := hM.look_in (P := Tryd.prog) keyN Tryd.underlying85 ⟨ref, rfl, hwf⟩ hm true
      simpa using this
    · refine ⟨0, fun W hM => ?_⟩
      rw [hi]
      have := hM.look_out (P := Tryd.prog) keyN Tryd.underlying85 (z := .int .i64 0) (fun w => by kernel_rfl) ⟨ref, rfl, hwf⟩ hm true
      simpa using this
  have hcO : checkE old.s old.ls = 0 := hw.ck old.p (List.mem_of_getElem? (show (E.map En.p)[j]? = some old.p by rw [List.getElem?_map, ho]; rfl))
  rw [wrongE_in hc hr (show (E.map En.p)[ref.toNat]? = some old.p by rw [hj, Int.toNat_natCast, List.getElem?_map, ho]; rfl)]
  show Calls _ _ _ _ (CkEnd w (if (revI (E.map En.p) ref).isSome then 17 else if old.s.ref ≠ -1 then 24 else if mirB old.p ⟨⟨con, day, cur, seq, per, ref⟩, ls⟩ then 0 else 20))
  obtain ⟨R, hRR⟩ : ∃ R : Int, (if (revI (E.map En.p) ref).isSome then 17 else if old.s.ref ≠ -1 then 24 else if mirB old.p ⟨⟨con, day, cur, seq, per, ref⟩, ls⟩ then 0 else 20 : Int) = R := ⟨_, rfl⟩
  rw [hRR]
  have HRR := Lib.hid hRR
  have HLk := Lib.hid hlk
  clear hRR
  have d2 : (ref == -1) = false := by rw [beq_eq_false_iff_ne]; exact hr
  have HOld : Hid (∀ W, Below w.heap.size w W → Calls Tryd.prog 36 #[.pointer (some ⟨p, 0, none⟩), .int .i64 ref] W (EntEnd W old.p)) := fun W hW => by
    rw [hj]
    exact lent_in p bm a cap E W (h.after hW) hl j old ho
  have HMi : Hid (∀ W c cc, EnOk W ⟨old.s, c, cc, old.ls⟩ → EnOk W ⟨⟨con, day, cur, seq, per, ref⟩, la, lc, ls⟩ → Calls Tryd.prog 63 #[entV old.s c old.ls.length cc, entV ⟨con, day, cur, seq, per, ref⟩ la ls.length lc] W fun e w' => e = .returned (.bool (mirB old.p ⟨⟨con, day, cur, seq, per, ref⟩, ls⟩)) ∧ Below W.heap.size W w') := fun W c cc h1 h2 => mirrors_any old.p ⟨⟨con, day, cur, seq, per, ref⟩, ls⟩ c la cc lc W h1 h2 hcO
  obtain ⟨⟨ocon, oday, ocur, oseq, oper, oref⟩, oa, oc, ols⟩ := old
  dsimp only [En.p] at HOld HMi HRR
  clear hlk hr hcO hj ho
  obtain ⟨wa, hwa⟩ : ∃ wa, w.alloc (.cells (entCs ⟨con, day, cur, seq, per, ref⟩ la ls.length lc) 26) = wa := ⟨_, rfl⟩
  have hba : Below w.heap.size w wa := by rw [← hwa]; exact (Below.refl _ _).alloc (Nat.le_refl _) _
  have HB : Hid (EBox wa w.heap.size ⟨con, day, cur, seq, per, ref⟩ la ls.length lc) := by rw [← hwa]; exact EBox.new _ _ _ _ _ _
  have hck := check_ok ⟨con, day, cur, seq, per, ref⟩ la lc ls wa (hR.after hba) (hX.ln.after hba) (Nat.le_trans hX.few (by omega)) hX.wf
  unfold entV at hck
  rw [hc] at hck
  have HCk := Lib.hid hck
  have HLg := Lib.hid (h.after hba)
  have HX := Lib.hid (hX.after hba)
  have HBA := Lib.hid hba
  obtain ⟨p0, p1, p2, p3, p4, p5, p6⟩ := id HB.out
  dsimp only at p0 p1 p2 p3 p4 p5 p6
  unfold entCs at hwa
  unfold entV
  clear hR hX h hw hba hck hc
  go_enter Tryd.func54, Tryd.ntmps54
  go_wp2_with fail
  clear hwa
  with_reducible refine HCk.out.mono ?_
  rintro e w1 ⟨rfl, hb1⟩
  obtain ⟨p0, p1, p2, p3, p4, p5, p6⟩ := HB.out.after hb1
  dsimp only at p0 p1 p2 p3 p4 p5 p6
  have hB1 := HBA.out.trans (hb1.mono HBA.out.size)
  have HE1 := Lib.hid (HOld.out w1 hB1)
  have HB1 := Lib.hid hB1
  have HLg1 := Lib.hid (HLg.out.after hb1)
  have HX1 := Lib.hid (HX.out.after hb1)
  have HBx1 := Lib.hid (HB.out.after hb1)
  clear HCk hb1 hB1 HOld HLg HX HB
  go_wp2_with fail
  with_reducible refine HE1.out.mono ?_
  rintro e w2 ⟨c, cc, rfl, hO2, hb2, _⟩
  dsimp only [entV] at hO2 ⊢
  obtain ⟨p0, p1, p2, p3, p4, p5, p6⟩ := HBx1.out.after hb2
  dsimp only at p0 p1 p2 p3 p4 p5 p6
  obtain ⟨w3, hw3⟩ : ∃ W, w2.alloc (.cells (entCs ⟨ocon, oday, ocur, oseq, oper, oref⟩ c ols.length cc) 26) = W := ⟨_, rfl⟩
  have hb3 : Below w2.heap.size w2 w3 := by rw [← hw3]; exact (Below.refl _ _).alloc (Nat.le_refl _) _
  have HBo : Hid (EBox w3 w2.heap.size ⟨ocon, oday, ocur, oseq, oper, oref⟩ c ols.length cc) := by rw [← hw3]; exact EBox.new _ _ _ _ _ _
  have HW3 := Lib.hid hw3
  have hB3 := HB1.out.trans ((hb2.trans (hb3.mono hb2.size)).mono HB1.out.size)
  have HBx3 := Lib.hid ((HBx1.out.after hb2).after hb3)
  have HLg3 := Lib.hid ((HLg1.out.after hb2).after hb3)
  have HX3 := Lib.hid ((HX1.out.after hb2).after hb3)
  have HO3 := Lib.hid (hO2.after hb3)
  have HB3 := Lib.hid hB3
  clear hw3 hb3 hb2 HE1 hO2 HLg1 HX1 HBx1 hB3
  go_wp2_with fail
  have hw3 := HW3.out
  unfold entCs at hw3
  rw [hw3]
  clear hw3 HW3
  have bd : Below w3.heap.size w3 w3.drew := (Below.refl _ _).drew
  have c1 : w3.cell? ⟨p, 1, none⟩ = some (.map (some bm)) := HLg3.out.blk.cell 1 rfl
  obtain ⟨p0, p1, p2, p3, p4, p5, p6⟩ := HBx3.out
  dsimp only at p0 p1 p2 p3 p4 p5 p6
  go_region_held3 (fun w' => w'.cell? ⟨p, 1, none⟩ = some (.map (some bm)) ∧ w'.cell? ⟨w.heap.size, 5, none⟩ = some (.int .i64 ref) ∧ (Instr.lookup 85 (.map (some bm)) (.int .i64 ref) true).run Tryd.prog w' = .ok (.tuple #[.int .i64 n, .bool (revI (E.map En.p) ref).isSome]) w')
    (first | exact ⟨below_cell bd c1, below_cell bd p5, HLk.out _ (HLg3.out.map.after bd)⟩)
    (fail)
  obtain ⟨w4, hw4⟩ : ∃ W, w3.drew = W := ⟨_, rfl⟩
  rw [hw4] at bd ⊢
  have HB4 := Lib.hid (HB3.out.trans (bd.mono HB3.out.size))
  obtain ⟨p0, p1, p2, p3, p4, p5, p6⟩ := HBx3.out.after bd
  obtain ⟨q0, q1, q2, q3, q4, q5, q6⟩ := HBo.out.after bd
  dsimp only at p0 p1 p2 p3 p4 p5 p6 q0 q1 q2 q3 q4 q5 q6
  have hmi := HMi.out w4 c cc (HO3.out.after bd) (HX3.out.after bd)
  unfold entV at hmi
  have HM4 := Lib.hid hmi
  clear hw4 bd c1 hmi HMi HLk HLg3 HX3 HO3 HBx3 HBo HB3
  cases hB : (revI (E.map En.p) ref).isSome with
  | true =>
    have HBB := Lib.hid hB
    clear hB
    go_wp2_with fail
    go_ret
    exact ⟨by rw [← HRR.out, HBB.out]; rfl, HB4.out⟩
  | false =>
    have HBB := Lib.hid hB
    clear hB
    by_cases hor : oref = -1
    · have d3 : (oref == -1) = true := by rw [beq_iff_eq]; exact hor
      have HOr := Lib.hid hor
      clear hor
      go_wp2_with fail
      with_reducible refine HM4.out.mono ?_
      rintro e w5 ⟨rfl, hb5⟩
      have HB5 := Lib.hid (HB4.out.trans (hb5.mono HB4.out.size))
      clear hb5
      cases hM : mirB ⟨⟨ocon, oday, ocur, oseq, oper, oref⟩, ols⟩ ⟨⟨con, day, cur, seq, per, ref⟩, ls⟩ with
      | true =>
        have HMM := Lib.hid hM
        clear hM
        go_wp2_with fail
        go_ret
        have hF : R = 0 := by rw [← HRR.out, HBB.out, if_neg (by decide), if_neg (fun hne => hne HOr.out)]; exact if_pos HMM.out
        exact ⟨by rw [hF]; rfl, HB5.out⟩
      | false =>
        have HMM := Lib.hid hM
        clear hM
        go_wp2_with fail
        go_ret
        have hF : R = 20 := by rw [← HRR.out, HBB.out, if_neg (by decide), if_neg (fun hne => hne HOr.out)]; exact if_neg (show ¬ mirB ⟨⟨ocon, oday, ocur, oseq, oper, oref⟩, ols⟩ ⟨⟨con, day, cur, seq, per, ref⟩, ls⟩ = true by rw [HMM.out]; decide)
        exact ⟨by rw [hF]; rfl, HB5.out⟩
    · have d3 : (oref == -1) = false := by rw [beq_eq_false_iff_ne]; exact hor
      have HOr := Lib.hid hor
      clear hor
      go_wp2_with fail
      go_ret
      refine ⟨?_, HB4.out⟩
      rw [← HRR.out, HBB.out, if_neg (by decide), if_pos HOr.out]
      rfl

theorem lcheck_ok (p bm : Nat) (a : Option Addr) (cap : Nat) (E : List En) (x : En) (w : World) (hR : RulesAt w) (h : LgAt w p bm a cap E) (hl : E.length ≤ 1000000) (hw : WL (E.map En.p)) (hX : EnOk w x) (hwf : (Lit.int .i64 x.s.ref).wf = true) :
    Calls Tryd.prog 54 #[.pointer (some ⟨p, 0, none⟩), entV x.s x.a x.ls.length x.cap] w (CkEnd w (wrongE (E.map En.p) x.p)) := by
  obtain ⟨⟨con, day, cur, seq, per, ref⟩, la, lc, ls⟩ := x
  by_cases hc : checkE ⟨con, day, cur, seq, per, ref⟩ ls = 0
  · by_cases hr : ref = -1
    · subst hr
      exact lck_new p bm a cap E con day cur seq per la lc ls w hR h hw hX hc
    · have h0 : -1 ≤ ref := (check_nums hc).2.2.1
      by_cases ho : (E.length : Int) ≤ ref
      · exact lck_out p bm a cap E con day cur seq per ref la lc ls w hR h hw hX hc hr ho hwf
      · exact lck_in p bm a cap E con day cur seq per ref la lc ls w hR h hl hw hX hc hr ref.toNat (by omega) E[ref.toNat] (List.getElem?_eq_getElem (by omega)) hwf
  · exact lck_bad p bm a cap E con day cur seq per ref la lc ls w hR h hw hX hc

end Go.Proofs.YtmjgcenhgpkhiaaDoor
