/- The law's awake. -/
import Derived.Test.YtpinhomalmknjaaDoorLgK
import Derived.Test.YtpinhomalmknjaaDoorLgL
namespace Go.Proofs.YtpinhomalmknjaaDoor
open Go.RowKit Go.Sort Go.Shelf
set_option linter.unusedVariables false
set_option linter.unusedSimpArgs false

theorem ens_one {w : World} {B : Nat} {e : En} (h : Blk w B e.cs.toArray 27) (he : EnOk w e) : EnsAt w (some ⟨B, 0, none⟩) [e] := by
  refine ⟨fun _ => ⟨B, 0, rfl, fun i hi j v hv => ?_⟩, fun i hi => ?_⟩
  · obtain rfl : i = 0 := by simpa using hi
    have hv' : e.cs[j]? = some v := hv
    have := h.cell j (v := v) (by simpa using hv')
    simpa using this
  · obtain rfl : i = 0 := by simpa using hi
    exact he
theorem postOne (p bm : Nat) (a : Option Addr) (cap : Nat) (E : List En) (b s : Nat) (seq : Int) (B : Nat) (x : En) (w : World) (hR : RulesAt w) (h : LgAt w p bm a cap E) (hw : WL (E.map En.p)) (hl : E.length ≤ 900) (hP : Per w b s 30 0) (hB : Blk w B x.cs.toArray 27) (hx : EnOk w x) (hwf : (Lit.int .i64 x.s.ref).wf = true) (n : Int) (hn : postE true false 0 seq (E.map En.p) [x.p] = n) :
    Calls Tryd.prog 20 #[.pointer (some ⟨p, 0, none⟩), .pointer (some ⟨b, 0, none⟩), .int .i64 0, .int .i64 seq, .slice (some ⟨B, 0, none⟩) 1 1] w fun e w' => ∃ bm' a' cap' E', e = .returned (.tuple #[.int .i64 (if n = 0 then (E.length : Int) else 0), .int .i64 n]) ∧ LgAt w' p bm' a' cap' E' ∧ E'.map En.p = (if n = 0 then E.map En.p ++ [stamp 0 seq x.p] else E.map En.p) ∧ Turn [p] w w' := by
  have h0 := lpost_ok p bm a cap E b s 30 0 0 seq (some ⟨B, 0, none⟩) 1 [x] w hR h hw (by omega) hP (by omega) (by omega) (ens_one hB hx) (by simp) (by simpa using hwf)
  rw [show decide ((0 : Int) ≤ 0 ∧ 0 ≤ lastP 30) = true from by decide +kernel, show decide ((0 : Int) < 0) = false from by decide] at h0
  refine h0.mono ?_
  rintro e w' ⟨bm', a', cap', E', rfl, h1, h2, h3⟩
  have hn' : postE true false 0 seq (E.map En.p) ([x].map En.p) = n := hn
  refine ⟨bm', a', cap', E', by rw [hn'], h1, ?_, h3⟩
  rw [h2]
  unfold postL
  rw [hn']
  rfl
/-- What the example keeps beside its ledger. -/
structure Ctx (w : World) (b s Be Br : Nat) (x y : En) (w' : World) : Prop where
  ru : RulesAt w'
  pe : Per w' b s 30 0
  be : Blk w' Be x.cs.toArray 27
  br : Blk w' Br y.cs.toArray 27
  ox : EnOk w' x
  oy : EnOk w' y
  bl : Below w.heap.size w w'
theorem Ctx.after {w : World} {b s Be Br : Nat} {x y : En} {A C : World} (h : Ctx w b s Be Br x y A) (hb : Below A.heap.size A C) : Ctx w b s Be Br x y C :=
  ⟨h.ru.after hb, h.pe.after hb, h.be.after hb, h.br.after hb, h.ox.after hb, h.oy.after hb, h.bl.trans (hb.mono h.bl.size)⟩
theorem Per.turn {A C : World} {bs : List Nat} {b s : Nat} {size locked : Int} (h : Per A b s size locked) (t : Turn bs A C) (h1 : b ∉ bs) (h2 : s ∉ bs) : Per C b s size locked := by
  have k1 := t.block b h.lt.1 h1
  have k2 := t.block s h.lt.2 h2
  refine ⟨(World.cell?_of_block k1).trans h.h0, (World.cell?_of_block k1).trans h.h1, (World.cell?_of_block k2).trans h.hs, ?_, h.ne⟩
  have hf := h.f1
  unfold World.frozen? at hf ⊢
  rw [k1]
  exact hf
theorem RulesAt.turn {A C : World} {bs : List Nat} (h : RulesAt A) (t : Turn bs A C) (h1 : 0 ∉ bs) : RulesAt C := by
  have hlt : 0 < A.heap.size := World.block_lt_of_cell? A _ h.r0
  have k1 := t.block 0 hlt h1
  obtain ⟨r0, r1, r2, r3, r4, r5, r6, r7, r8, r9⟩ := h
  exact ⟨(World.cell?_of_block k1).trans r0, (World.cell?_of_block k1).trans r1, (World.cell?_of_block k1).trans r2, (World.cell?_of_block k1).trans r3, (World.cell?_of_block k1).trans r4, (World.cell?_of_block k1).trans r5, (World.cell?_of_block k1).trans r6, (World.cell?_of_block k1).trans r7, (World.cell?_of_block k1).trans r8, (World.cell?_of_block k1).trans r9⟩
theorem Ctx.turn {w : World} {p b s Be Br : Nat} {x y : En} {A C : World} (h : Ctx w b s Be Br x y A) (t : Turn [p] A C) (hp : LBox A p) (h0 : w.heap.size ≤ p) (h1 : b ≠ p) (h2 : s ≠ p) (h3 : Be ≠ p) (h4 : Br ≠ p) (h5 : 0 < w.heap.size) : Ctx w b s Be Br x y C := by
  have hbox : ∀ q ∈ [p], LBox A q := fun q hq => by rw [List.mem_singleton.1 hq]; exact hp
  exact ⟨h.ru.turn t (by simp; omega), h.pe.turn t (by simpa using h1) (by simpa using h2), t.blk h.be (by simpa using h3), t.blk h.br (by simpa using h4), h.ox.turn t hbox, h.oy.turn t hbox, h.bl.trans (t.below h.bl.size (fun q hq => by rw [List.mem_singleton.1 hq]; exact h0))⟩
def eP : EnP := ⟨⟨1, 0, 0, 0, 0, -1⟩, [⟨2, 0, 70⟩, ⟨3, 0, -70⟩]⟩
def rP : EnP := ⟨⟨1, 0, 0, 0, 0, 0⟩, [⟨2, 0, -70⟩, ⟨3, 0, 70⟩]⟩
def TrueEnd (w : World) (e : Ending) (w' : World) : Prop := e = .returned (.bool true) ∧ Below w.heap.size w w'
theorem wf_eP : AllWf eP.ls := fun l hl => by simp [eP] at hl; rcases hl with rfl | rfl <;> (unfold Ln.wf; simp)
theorem wf_rP : AllWf rP.ls := fun l hl => by simp [rP] at hl; rcases hl with rfl | rfl <;> (unfold Ln.wf; simp)
theorem flow_e (w : World) : Calls Tryd.prog 36 #[.agg #[.int .i64 1, .int .i64 0, .int .i64 0], .int .i64 70, .int .i64 2, .int .i64 3] w fun e w' => ∃ c, e = .returned (.tuple #[.agg #[.int .i64 1, .int .i64 0, .int .i64 0, .int .i64 0, .int .i64 0, .int .i64 (-1), .slice (some ⟨c, 0, none⟩) 2 2], .int .i64 0]) ∧ EnOk w' ⟨eP.s, some ⟨c, 0, none⟩, 2, eP.ls⟩ ∧ Below w.heap.size w w' := by
  refine (flow_ok 1 0 0 70 2 3 w (by omega)).mono ?_
  rintro e w' ⟨hb, ⟨_, c, rfl, hl, _⟩ | ⟨h, _⟩⟩
  · exact ⟨c, rfl, ⟨hl, wf_eP, show eP.ls.length ≤ 1000 by decide, fun e => by cases e⟩, hb⟩
  · exact absurd (by decide +kernel) h
theorem rev_e (c : Nat) (w : World) (hR : RulesAt w) (hx : EnOk w ⟨eP.s, some ⟨c, 0, none⟩, 2, eP.ls⟩) : Calls Tryd.prog 37 #[.agg #[.int .i64 1, .int .i64 0, .int .i64 0, .int .i64 0, .int .i64 0, .int .i64 (-1), .slice (some ⟨c, 0, none⟩) 2 2], .int .i64 0] w fun e w' => ∃ d cap, e = .returned (.tuple #[.agg #[.int .i64 1, .int .i64 0, .int .i64 0, .int .i64 0, .int .i64 0, .int .i64 0, .slice d 2 cap], .int .i64 0]) ∧ EnOk w' ⟨rP.s, d, cap, rP.ls⟩ ∧ Below w.heap.size w w' := by
  refine (reverse_ok eP.s 0 (some ⟨c, 0, none⟩) 2 eP.ls w hR hx.ln (by decide) hx.wf (fun e => by cases e)).mono ?_
  rintro e w' ⟨hb, ⟨_, d, cap, rfl, h1, hl, _⟩ | ⟨h, _⟩⟩
  · exact ⟨d, cap, rfl, ⟨hl, wf_rP, show rP.ls.length ≤ 1000 by decide, fun e => h1 e⟩, hb⟩
  · exact absurd (by decide +kernel) h
set_option maxHeartbeats 16000000 in
set_option maxRecDepth 100000 in
theorem awake15 (w : World) (hR : RulesAt w) : Calls Tryd.prog 11 #[] w (TrueEnd w) := by
  have hw0 : 0 < w.heap.size := World.block_lt_of_cell? w _ hR.r0
  have HR := Lib.hid hR
  have HN := Lib.hid (lnew_ok w)
  clear hR
  go_enter Tryd.func11, Tryd.ntmps11
  go_wp2_with fail
  with_reducible refine HN.out.mono ?_
  rintro e w1 ⟨p, bm, a1, c1, rfl, hL1, hb1, hp1, _⟩
  have hpl := hL1.blk.lt
  have HL1 := Lib.hid hL1
  have HB1 := Lib.hid hb1
  have HP1 := Lib.hid (pnew_ok 30 w1 (by omega) (by omega))
  clear hL1 hb1 HN
  go_wp2_with fail
  with_reducible refine HP1.out.mono ?_
  rintro e w2 ⟨b, s, rfl, hP2, hb2, hb2b, hb2s⟩
  have z2 := hb2.size
  have HL2 := Lib.hid (HL1.out.after hb2)
  have HB2 := Lib.hid (HB1.out.trans (hb2.mono HB1.out.size))
  have HP2 := Lib.hid hP2
  clear hP2 hb2 HL1 HB1 HP1
  go_wp2_with fail
  with_reducible refine (flow_e w2).mono ?_
  rintro e w3 ⟨c, rfl, hx3, hb3⟩
  have z3 := hb3.size
  obtain ⟨w4, hw⟩ : ∃ W, w3.alloc (.cells #[.int .i64 1, .int .i64 0, .int .i64 0, .int .i64 0, .int .i64 0, .int .i64 (-1), .slice (some ⟨c, 0, none⟩) 2 2] 27) = W := ⟨_, rfl⟩
  have hba : Below w3.heap.size w3 w4 := by rw [← hw]; exact (Below.refl _ _).alloc (Nat.le_refl _) _
  have hka : Blk w4 w3.heap.size #[.int .i64 1, .int .i64 0, .int .i64 0, .int .i64 0, .int .i64 0, .int .i64 (-1), .slice (some ⟨c, 0, none⟩) 2 2] 27 := by rw [← hw]; exact Blk.new _ _ _
  have HW := Lib.hid hw
  have z4 : w3.heap.size < w4.heap.size := hka.lt
  have hB4 := hb3.trans (hba.mono z3)
  have HL4 := Lib.hid (HL2.out.after hB4)
  have HB4 := Lib.hid (HB2.out.trans (hB4.mono HB2.out.size))
  have HP4 := Lib.hid (HP2.out.after hB4)
  have HX4 := Lib.hid (hx3.after hba)
  have HK4 := Lib.hid hka
  have qa : w4.cell? ⟨w3.heap.size, 0, none⟩ = some (.int .i64 1) := (hka).cell 0 rfl
  have qb : w4.cell? ⟨w3.heap.size, 1, none⟩ = some (.int .i64 0) := (hka).cell 1 rfl
  have qc : w4.cell? ⟨w3.heap.size, 2, none⟩ = some (.int .i64 0) := (hka).cell 2 rfl
  have qd : w4.cell? ⟨w3.heap.size, 3, none⟩ = some (.int .i64 0) := (hka).cell 3 rfl
  have qe : w4.cell? ⟨w3.heap.size, 4, none⟩ = some (.int .i64 0) := (hka).cell 4 rfl
  have qf : w4.cell? ⟨w3.heap.size, 5, none⟩ = some (.int .i64 (-1)) := (hka).cell 5 rfl
  have qg : w4.cell? ⟨w3.heap.size, 6, none⟩ = some (.slice (some ⟨c, 0, none⟩) 2 2) := (hka).cell 6 rfl
  have HRv := Lib.hid (rev_e c w4 (HR.out.after HB4.out) HX4.out)
  clear hw hba hka hb3 hx3 hB4 HL2 HB2 HP2
  go_wp2_with fail
  rw [HW.out]
  with_reducible refine HRv.out.mono ?_
  rintro e w5 ⟨d, cap5, rfl, hy5, hb5⟩
  clear HW qa qb qc qd qe qf qg
  have hk5 := HK4.out.after hb5
  have qa : w5.cell? ⟨w3.heap.size, 0, none⟩ = some (.int .i64 1) := (hk5).cell 0 rfl
  have qb : w5.cell? ⟨w3.heap.size, 1, none⟩ = some (.int .i64 0) := (hk5).cell 1 rfl
  have qc : w5.cell? ⟨w3.heap.size, 2, none⟩ = some (.int .i64 0) := (hk5).cell 2 rfl
  have qd : w5.cell? ⟨w3.heap.size, 3, none⟩ = some (.int .i64 0) := (hk5).cell 3 rfl
  have qe : w5.cell? ⟨w3.heap.size, 4, none⟩ = some (.int .i64 0) := (hk5).cell 4 rfl
  have qf : w5.cell? ⟨w3.heap.size, 5, none⟩ = some (.int .i64 (-1)) := (hk5).cell 5 rfl
  have qg : w5.cell? ⟨w3.heap.size, 6, none⟩ = some (.slice (some ⟨c, 0, none⟩) 2 2) := (hk5).cell 6 rfl
  clear hk5
  obtain ⟨w6, hw⟩ : ∃ W, w5.alloc (.cells #[.int .i64 1, .int .i64 0, .int .i64 0, .int .i64 0, .int .i64 0, .int .i64 0, .slice d 2 cap5] 27) = W := ⟨_, rfl⟩
  have hba : Below w5.heap.size w5 w6 := by rw [← hw]; exact (Below.refl _ _).alloc (Nat.le_refl _) _
  have hka : Blk w6 w5.heap.size #[.int .i64 1, .int .i64 0, .int .i64 0, .int .i64 0, .int .i64 0, .int .i64 0, .slice d 2 cap5] 27 := by rw [← hw]; exact Blk.new _ _ _
  have HW := Lib.hid hw
  have z5 := hb5.size
  have hB6 := hb5.trans (hba.mono z5)
  have HL6 := Lib.hid (HL4.out.after hB6)
  have HC6 : Hid (Ctx w b s w3.heap.size w5.heap.size ⟨eP.s, some ⟨c, 0, none⟩, 2, eP.ls⟩ ⟨rP.s, d, cap5, rP.ls⟩ w6) := ⟨HR.out.after (HB4.out.trans (hB6.mono HB4.out.size)), HP4.out.after hB6, HK4.out.after hB6, hka, HX4.out.after hB6, hy5.after hba, HB4.out.trans (hB6.mono HB4.out.size)⟩
  have zp1 : p < w1.heap.size := hpl
  have zbp : b ≠ p := by omega
  have zsp : s ≠ p := by omega
  have z3p : w3.heap.size ≠ p := by omega
  have z5p : w5.heap.size ≠ p := by omega
  have HW6 := Lib.hid hw
  clear hw hba hka hb5 hy5 hB6 HL4 HP4 HK4 HX4 HW HRv HB4
  have zq : w3.heap.size < w5.heap.size := by omega
  have z6 : w6.heap.size = w5.heap.size + 1 := by rw [← HW6.out]; simp
  obtain ⟨w7, hw⟩ : ∃ W, w6.alloc (.cells #[.int .i64 1, .int .i64 0, .int .i64 0, .int .i64 0, .int .i64 0, .int .i64 (-1), .slice (some ⟨c, 0, none⟩) 2 2] 27) = W := ⟨_, rfl⟩
  have hba : Below w6.heap.size w6 w7 := by rw [← hw]; exact (Below.refl _ _).alloc (Nat.le_refl _) _
  have hka : Blk w7 w6.heap.size #[.int .i64 1, .int .i64 0, .int .i64 0, .int .i64 0, .int .i64 0, .int .i64 (-1), .slice (some ⟨c, 0, none⟩) 2 2] 27 := by rw [← hw]; exact Blk.new _ _ _
  have HW := Lib.hid hw
  have HL7 := Lib.hid (HL6.out.after hba)
  have HC7 := Lib.hid (HC6.out.after hba)
  have hpo := postOne p bm a1 c1 [] b s 1 w6.heap.size ⟨eP.s, some ⟨c, 0, none⟩, 2, eP.ls⟩ w7 HC7.out.ru HL7.out WL.nil (by simp) HC7.out.pe hka HC7.out.ox (show (Lit.int .i64 (-1)).wf = true by decide) 0 (show postE true false 0 1 [] [eP] = 0 by decide +kernel)
  rw [z6] at hpo
  have HPo := Lib.hid hpo
  clear hpo
  clear hw hba hka HL6 HC6
  go_wp2_with fail
  rw [HW6.out]
  rw [HW.out]
  with_reducible refine HPo.out.mono ?_
  rintro e w8 ⟨bm8, a8, c8, E8, rfl, hL8, hE8, hT8⟩
  rw [if_pos trivial] at hE8 ⊢
  have HE8 : Hid (E8.map En.p = [stamp 0 1 eP]) := hE8
  have hC8 := HC7.out.turn hT8 HL7.out.box hp1 zbp zsp z3p z5p hw0
  have hl8 : E8.length = 1 := by have := congrArg List.length HE8.out; simpa using this
  have hW8 : WL (E8.map En.p) := by rw [HE8.out]; exact WL.nil.snoc (x := eP) (by decide +kernel) (by omega) (by omega) (by decide)
  have hbr8 := hC8.br
  have ra : w8.cell? ⟨w5.heap.size, 0, none⟩ = some (.int .i64 1) := (hbr8).cell 0 rfl
  have rb : w8.cell? ⟨w5.heap.size, 1, none⟩ = some (.int .i64 0) := (hbr8).cell 1 rfl
  have rc : w8.cell? ⟨w5.heap.size, 2, none⟩ = some (.int .i64 0) := (hbr8).cell 2 rfl
  have rd : w8.cell? ⟨w5.heap.size, 3, none⟩ = some (.int .i64 0) := (hbr8).cell 3 rfl
  have re : w8.cell? ⟨w5.heap.size, 4, none⟩ = some (.int .i64 0) := (hbr8).cell 4 rfl
  have rf : w8.cell? ⟨w5.heap.size, 5, none⟩ = some (.int .i64 0) := (hbr8).cell 5 rfl
  have rg : w8.cell? ⟨w5.heap.size, 6, none⟩ = some (.slice d 2 cap5) := (hbr8).cell 6 rfl
  clear qa qb qc qd qe qf qg HW HW6 HPo
  obtain ⟨w9, hw⟩ : ∃ W, w8.alloc (.cells #[.int .i64 1, .int .i64 0, .int .i64 0, .int .i64 0, .int .i64 0, .int .i64 0, .slice d 2 cap5] 27) = W := ⟨_, rfl⟩
  have hba : Below w8.heap.size w8 w9 := by rw [← hw]; exact (Below.refl _ _).alloc (Nat.le_refl _) _
  have hka : Blk w9 w8.heap.size #[.int .i64 1, .int .i64 0, .int .i64 0, .int .i64 0, .int .i64 0, .int .i64 0, .slice d 2 cap5] 27 := by rw [← hw]; exact Blk.new _ _ _
  have HW := Lib.hid hw
  have HL9 := Lib.hid (hL8.after hba)
  have HC9 := Lib.hid (hC8.after hba)
  have HPo := Lib.hid (postOne p bm8 a8 c8 E8 b s 2 w8.heap.size ⟨rP.s, d, cap5, rP.ls⟩ w9 HC9.out.ru HL9.out hW8 (by omega) HC9.out.pe hka HC9.out.oy (show (Lit.int .i64 0).wf = true by decide) 0 (by rw [HE8.out]; exact (show postE true false 0 2 [stamp 0 1 eP] [rP] = 0 by decide +kernel)))
  have HW8 := Lib.hid hW8
  have HLe8 := Lib.hid hl8
  clear hw hba hka hL8 hE8 hT8 hC8 hW8 hl8 hbr8 HL7 HC7
  go_wp2_with fail
  rw [HW.out]
  with_reducible refine HPo.out.mono ?_
  rintro e w10 ⟨bm10, a10, c10, E10, rfl, hL10, hE10, hT10⟩
  rw [if_pos trivial] at hE10 ⊢
  rw [HLe8.out]
  have HE10 : Hid (E10.map En.p = [stamp 0 1 eP, stamp 0 2 rP]) := by show _ = _; rw [hE10, HE8.out]; rfl
  have hC10 := HC9.out.turn hT10 HL9.out.box hp1 zbp zsp z3p z5p hw0
  have hl10 : E10.length = 2 := by have := congrArg List.length HE10.out; simpa using this
  have hW10 : WL (E10.map En.p) := by
    rw [hE10]
    exact HW8.out.snoc (x := rP) (by rw [HE8.out]; decide +kernel) (by omega) (by omega) (by rw [HE8.out]; decide)
  have hbr10 := hC10.br
  clear ra rb rc rd re rf rg HW HPo HW8 HLe8
  have ra : w10.cell? ⟨w5.heap.size, 0, none⟩ = some (.int .i64 1) := (hbr10).cell 0 rfl
  have rb : w10.cell? ⟨w5.heap.size, 1, none⟩ = some (.int .i64 0) := (hbr10).cell 1 rfl
  have rc : w10.cell? ⟨w5.heap.size, 2, none⟩ = some (.int .i64 0) := (hbr10).cell 2 rfl
  have rd : w10.cell? ⟨w5.heap.size, 3, none⟩ = some (.int .i64 0) := (hbr10).cell 3 rfl
  have re : w10.cell? ⟨w5.heap.size, 4, none⟩ = some (.int .i64 0) := (hbr10).cell 4 rfl
  have rf : w10.cell? ⟨w5.heap.size, 5, none⟩ = some (.int .i64 0) := (hbr10).cell 5 rfl
  have rg : w10.cell? ⟨w5.heap.size, 6, none⟩ = some (.slice d 2 cap5) := (hbr10).cell 6 rfl
  obtain ⟨w11, hw⟩ : ∃ W, w10.alloc (.cells #[.int .i64 1, .int .i64 0, .int .i64 0, .int .i64 0, .int .i64 0, .int .i64 0, .slice d 2 cap5] 27) = W := ⟨_, rfl⟩
  have hba : Below w10.heap.size w10 w11 := by rw [← hw]; exact (Below.refl _ _).alloc (Nat.le_refl _) _
  have hka : Blk w11 w10.heap.size #[.int .i64 1, .int .i64 0, .int .i64 0, .int .i64 0, .int .i64 0, .int .i64 0, .slice d 2 cap5] 27 := by rw [← hw]; exact Blk.new _ _ _
  have HW := Lib.hid hw
  have HL11 := Lib.hid (hL10.after hba)
  have HC11 := Lib.hid (hC10.after hba)
  have HPo := Lib.hid (postOne p bm10 a10 c10 E10 b s 3 w10.heap.size ⟨rP.s, d, cap5, rP.ls⟩ w11 HC11.out.ru HL11.out hW10 (by omega) HC11.out.pe hka HC11.out.oy (show (Lit.int .i64 0).wf = true by decide) 17 (by rw [HE10.out]; exact (show postE true false 0 3 [stamp 0 1 eP, stamp 0 2 rP] [rP] = 17 by decide +kernel)))
  have HW10 := Lib.hid hW10
  clear hw hba hka hL10 hE10 hT10 hC10 hW10 hl10 hbr10 HL9 HC9 HE8
  go_wp2_with fail
  rw [HW.out]
  with_reducible refine HPo.out.mono ?_
  rintro e w12 ⟨bm12, a12, c12, E12, rfl, hL12, hE12, hT12⟩
  first | rw [if_neg (by decide)] at hE12 ⊢ | rw [if_neg not_false] at hE12 ⊢
  have hC12 := HC11.out.turn hT12 HL11.out.box hp1 zbp zsp z3p z5p hw0
  have hW12 : WL (E12.map En.p) := by rw [hE12]; exact HW10.out
  have HE12 : Hid (E12.map En.p = [stamp 0 1 eP, stamp 0 2 rP]) := by show _ = _; rw [hE12]; exact HE10.out
  have hl12 : E12.length = 2 := by have := congrArg List.length HE12.out; simpa using this
  have hf12 : ∀ e ∈ E12, e.ls.length ≤ 100 := fun e he => by have := (check_nums (hW12.ck e.p (List.mem_map.2 ⟨e, he, rfl⟩))).2.2.2.2; exact Nat.le_trans this (by omega)
  have hrv := lrev_ok p bm12 a12 c12 E12 0 w12 hL12 hW12 (by decide)
  rw [HE12.out, show revI [stamp 0 1 eP, stamp 0 2 rP] 0 = some 1 from by decide +kernel] at hrv
  have HRv := Lib.hid hrv
  have hb9 := lbal_ok p bm12 a12 c12 E12 2 0 9 w12 hL12 (by omega) hf12
  unfold SumEnd at hb9
  rw [HE12.out, show sumA (sumQ (qBal 0 9) 2 [stamp 0 1 eP, stamp 0 2 rP]).sum = .tuple #[.int .i64 0, .int .i64 0] from by kernel_rfl] at hb9
  have HB9 := Lib.hid hb9
  have HB1' : Hid (∀ W, Below w12.heap.size w12 W → Calls Tryd.prog 15 #[.pointer (some ⟨p, 0, none⟩), .int .i64 2, .int .i64 0, .int .i64 1] W fun e w' => e = .returned (.tuple #[.int .i64 70, .int .i64 0]) ∧ Below W.heap.size W w') := fun W hW => by
    have hb1 := lbal_ok p bm12 a12 c12 E12 2 0 1 W (hL12.after hW) (by omega) hf12
    unfold SumEnd at hb1
    rw [HE12.out, show sumA (sumQ (qBal 0 1) 2 [stamp 0 1 eP, stamp 0 2 rP]).sum = .tuple #[.int .i64 70, .int .i64 0] from by kernel_rfl] at hb1
    exact hb1
  have HBl := Lib.hid hC12.bl
  clear ra rb rc rd re rf rg HW HPo hL12 hE12 hT12 hC12 hW12 hl12 hf12 hrv hb9 HE10 HW10 HL11 HC11 HE12
  go_wp2_with fail
  with_reducible refine HRv.out.mono ?_
  rintro e w13 ⟨rfl, hw13⟩
  obtain rfl : w12 = w13 := hw13.symm
  dsimp only [Option.isSome]
  go_wp2_with fail
  with_reducible refine HB9.out.mono ?_
  rintro e w14 ⟨rfl, hb14⟩
  have HB14 := Lib.hid (HB1'.out w14 hb14)
  have HBl14 := Lib.hid (HBl.out.trans (hb14.mono HBl.out.size))
  clear hb14 HB9 HRv HBl HB1'
  go_wp2_with fail
  with_reducible refine HB14.out.mono ?_
  rintro e w15 ⟨rfl, hb15⟩
  have HBl15 := Lib.hid (HBl14.out.trans (hb15.mono HBl14.out.size))
  clear hb15 HB14 HBl14
  go_wp2_with fail
  go_ret
  exact ⟨rfl, HBl15.out⟩

end Go.Proofs.YtpinhomalmknjaaDoor
