/- Package entry: even, and Check, by the table of rules. -/
import Derived.Test.YtmjgcenhgpkhiaaDoorEntB
import Derived.Laws.Rows
import Derived.Laws.EntriesVeiled
namespace Go.Proofs.YtmjgcenhgpkhiaaDoor
open Go.RowKit
set_option linter.unusedVariables false
set_option maxRecDepth 100000
set_option linter.unusedSimpArgs false


/-- The amounts of the first k lines. -/
def amts (ls : List Ln) (k : Nat) : List Value := (List.range k).map fun i => .int .i64 (Ln.at ls i).a
theorem amts_succ (ls : List Ln) (k : Nat) : amts ls (k + 1) = amts ls k ++ [.int .i64 (Ln.at ls k).a] := by simp [amts, List.range_succ]
theorem amts_get (ls : List Ln) (k i : Nat) (h : i < k) : (amts ls k).getD i undef = .int .i64 (Ln.at ls i).a := by
  unfold amts
  rw [List.getD_eq_getElem?_getD, List.getElem?_map, List.getElem?_range h]
  rfl
theorem at_map (ls : List Ln) (i : Nat) : (ls.map Ln.a).getD i 0 = (Ln.at ls i).a := by
  unfold Ln.at
  rw [List.getD_eq_getElem?_getD, List.getElem?_map, List.getD_eq_getElem?_getD]
  cases ls[i]? <;> rfl
theorem owned_amts {w : World} {base : Nat} {v : Value} {ls : List Ln} (h : w.ownsRow base 3 1 v ls.length (amts ls ls.length)) : ∃ c cap, v = .slice c ls.length cap ∧ RowAt w c ls.length (numV (ls.map Ln.a)) := by
  obtain ⟨a, cap, rfl, _, _, _, _, h4⟩ := owned_parts h
  rw [Nat.mul_one] at h4
  exact ⟨a, cap, rfl, h4.congr fun i hi => by rw [amts_get ls _ i hi]; unfold numV; rw [at_map]⟩

def AllWf (ls : List Ln) : Prop := ∀ l ∈ ls, l.wf
theorem AllWf.amt {ls : List Ln} (h : AllWf ls) : ∀ x ∈ ls.map Ln.a, -9223372036854775808 ≤ x ∧ x ≤ 9223372036854775807 := fun x hx => by
  obtain ⟨l, hl, rfl⟩ := List.mem_map.1 hx
  exact (h l hl).2.2

set_option maxHeartbeats 1000000 in
theorem even_ok (s : Six) (a : Option Addr) (cap : Nat) (ls : List Ln) (w : World) (hx : LnAt w a ls) (hl : ls.length ≤ 1000000) (hw : AllWf ls) :
    Calls Tryd.prog 109 #[entV s a ls.length cap] w fun e w' => e = .returned (.bool (evenB ls)) ∧ Below w.heap.size w w' := by
  obtain ⟨i0, hi, hz0, hz1, hz2⟩ := info_parts infoInt
  have HW := Lib.hid hw.amt
  have HX := Lib.hid hx
  have HE : Hid (evenB ls = decide ((ls.map Ln.a).sum = 0)) := rfl
  clear hw
  unfold entV
  obtain ⟨wa, hwa⟩ : ∃ wa, w.alloc (.cells (entCs s a ls.length cap) 26) = wa := ⟨_, rfl⟩
  have hba : Below w.heap.size w wa := by rw [← hwa]; exact (Below.refl _ _).alloc (Nat.le_refl _) _
  have hza : wa.heap.size = w.heap.size + 1 := by rw [← hwa]; simp
  have hx2 := Lib.hid (hx.after hba)
  have hbox : EBox wa w.heap.size s a ls.length cap := by rw [← hwa]; exact EBox.new _ _ _ _ _ _
  unfold entCs at hwa
  have HZA := Lib.hid hza
  clear hx hza
  obtain ⟨q0, q1, q2, q3, q4, q5, q6⟩ := id hbox
  go_enter Tryd.func109, Tryd.ntmps109
  go_wp2_with fail
  clear hwa q0 q1 q2 q3 q4 q5 q6
  go_loopw [3, 5, 11] (fun v _ i wr => ∃ k : Nat, k ≤ ls.length ∧ i = .int .i64 k ∧ wr.ownsRow (w.heap.size + 1) 3 1 v k (amts ls k) ∧ Below w.heap.size w wr ∧ w.heap.size + 1 ≤ wr.heap.size) (fun _ _ i _ => ls.length - (intOf i).toNat)
  case atStart => exact ⟨0, by omega, rfl, World.ownsRow_nil _ _ _ _, hba, by have := HZA.out; omega⟩
  case round =>
    obtain ⟨k, hk, rfl, hown, hbl, zr⟩ := hrel
    clear hx2 hbox
    by_cases hlt : k < ls.length
    · obtain ⟨b, o, rfl, hcell⟩ := HX.out.after hbl (by omega)
      obtain ⟨c0, c1, c2⟩ := hcell k hlt
      have i1 : (0 : Int) ≤ (k : Int) := by omega
      have i2 : (k : Int) < (ls.length : Int) := by omega
      clear hcell
      go_wp2_with (at_builtin; refine wpList_append_own _ rfl _ _ 121 rfl (w.heap.size + 1) 3 i0 (.int .i64 0) 1 8 Tryd.underlying121 hi hz0 hz1 hz2 rfl (by decide) _ _ _ rfl ((hown.alloc _).alloc _) ⟨wr.heap.size + 1, 0, none⟩ 1 1 [.int .i64 (Ln.at ls k).a] rfl rfl (by have := news_one (wr.alloc (.cells #[.int .i64 (Ln.at ls k).p, .int .i64 (Ln.at ls k).c, .int .i64 (Ln.at ls k).a] 69)) (.int .i64 (Ln.at ls k).a) 3; simpa using this) (by simp [Value.oneCell']) (by unfold maxLen; omega) (by omega) (by simp; omega) ?_; intro v' w1 hown' hgrow _)
      have hb2 : Below w.heap.size w w1 := ((hbl.alloc hbl.size _).alloc (by have := hbl.size; simp; omega) _).grown hgrow (by have := hbl.size; simp; omega) (fun q e => by have := (hown.lt q e).1; omega)
      rw [← amts_succ] at hown'
      go_roundw
      case rel => exact ⟨k + 1, by omega, by go_num, hown', hb2, by have := hgrow.size; simp at this; omega⟩
      case measure => simp [intOf]; omega
    · obtain rfl : k = ls.length := by omega
      obtain ⟨c, capc, rfl, hrow⟩ := owned_amts hown
      have hlen : (ls.map Ln.a).length = ls.length := by simp
      have HR := Lib.hid hrow
      clear hown hrow
      cases hf : fitsI (ls.map Ln.a).sum
      · have HF := Lib.hid hf
        have HNZ : Hid (evenB ls = false) := by
          rw [HE.out, decide_eq_false_iff_not]
          intro h0
          rw [h0] at hf
          exact absurd hf (by decide)
        clear hf hlen
        go_wp2_with fail
        refine (sum_over c capc _ (ls.map Ln.a) _ (by simp) HR.out HW.out hl HF.out).mono ?_
        rintro e w1 ⟨rfl, rfl⟩
        go_wp2_with fail
        go_ret
        exact ⟨ret_bool HNZ.out.symm, hbl⟩
      · have HF := Lib.hid hf
        obtain ⟨S, hS⟩ : ∃ S, (ls.map Ln.a).sum = S := ⟨_, rfl⟩
        rw [hS] at HE
        have HS := Lib.hid hS
        clear hf hlen hS
        have hcall : Calls Tryd.prog 61 #[.slice c ls.length capc] wr fun e w' => e = .returned (.tuple #[.int .i64 S, .int .i64 0]) ∧ wr = w' := by
          have := sum_fit c capc _ (ls.map Ln.a) wr (by simp) HR.out HW.out hl HF.out
          rwa [HS.out] at this
        have HC := Lib.hid hcall
        clear hcall
        by_cases h0 : S = 0
        · subst h0
          go_wp2_with fail
          refine HC.out.mono ?_
          rintro e w1 ⟨rfl, rfl⟩
          go_wp2_with fail
          go_ret
          exact ⟨ret_bool (by rw [HE.out]; rfl), hbl⟩
        · have h1 : (S == 0) = false := by rw [beq_eq_false_iff_ne]; exact h0
          have H0 := Lib.hid h0
          clear h0
          go_wp2_with fail
          refine HC.out.mono ?_
          rintro e w1 ⟨rfl, rfl⟩
          go_wp2_with fail
          go_ret
          exact ⟨ret_bool (by rw [HE.out, decide_eq_false H0.out]), hbl⟩

/-- The table of rules, as its variable holds it. -/
structure RulesAt (w : World) : Prop where
  r0 : w.cell? ⟨0, 0, none⟩ = some (.func (.func 113) #[] #[])
  r1 : w.cell? ⟨0, 1, none⟩ = some (.int .i64 10)
  r2 : w.cell? ⟨0, 2, none⟩ = some (.func (.func 114) #[] #[])
  r3 : w.cell? ⟨0, 3, none⟩ = some (.int .i64 1)
  r4 : w.cell? ⟨0, 4, none⟩ = some (.func (.func 115) #[] #[])
  r5 : w.cell? ⟨0, 5, none⟩ = some (.int .i64 12)
  r6 : w.cell? ⟨0, 6, none⟩ = some (.func (.func 116) #[] #[])
  r7 : w.cell? ⟨0, 7, none⟩ = some (.int .i64 11)
  r8 : w.cell? ⟨0, 8, none⟩ = some (.func (.func 109) #[] #[])
  r9 : w.cell? ⟨0, 9, none⟩ = some (.int .i64 20)
theorem RulesAt.after {w w' : World} (h : RulesAt w) (hb : Below w.heap.size w w') : RulesAt w' :=
  ⟨below_cell hb h.r0, below_cell hb h.r1, below_cell hb h.r2, below_cell hb h.r3, below_cell hb h.r4, below_cell hb h.r5, below_cell hb h.r6, below_cell hb h.r7, below_cell hb h.r8, below_cell hb h.r9⟩

/-- What Check answers. -/
def checkE (s : Six) (ls : List Ln) : Int :=
  if rangesB s ls then (if linesB s ls then (if someB ls then (if fitsB ls then (if evenB ls then 0 else 20) else 11) else 12) else 1) else 10

abbrev rulesA : Array Value := #[.func (.func 113) #[] #[], .int .i64 10, .func (.func 114) #[] #[], .int .i64 1, .func (.func 115) #[] #[], .int .i64 12,
  .func (.func 116) #[] #[], .int .i64 11, .func (.func 109) #[] #[], .int .i64 20]

theorem idx0 (w : World) : (Instr.index 96 (.agg rulesA) (.int .i64 0)).run Tryd.prog w = .ok (.agg #[.func (.func 113) #[] #[], .int .i64 10]) w := by kernel_rfl
theorem idx1 (w : World) : (Instr.index 96 (.agg rulesA) (.int .i64 1)).run Tryd.prog w = .ok (.agg #[.func (.func 114) #[] #[], .int .i64 1]) w := by kernel_rfl
theorem idx2 (w : World) : (Instr.index 96 (.agg rulesA) (.int .i64 2)).run Tryd.prog w = .ok (.agg #[.func (.func 115) #[] #[], .int .i64 12]) w := by kernel_rfl
theorem idx3 (w : World) : (Instr.index 96 (.agg rulesA) (.int .i64 3)).run Tryd.prog w = .ok (.agg #[.func (.func 116) #[] #[], .int .i64 11]) w := by kernel_rfl
theorem idx4 (w : World) : (Instr.index 96 (.agg rulesA) (.int .i64 4)).run Tryd.prog w = .ok (.agg #[.func (.func 109) #[] #[], .int .i64 20]) w := by kernel_rfl

set_option maxHeartbeats 2000000 in
theorem check_ok (s : Six) (a : Option Addr) (cap : Nat) (ls : List Ln) (w : World) (hR : RulesAt w) (hx : LnAt w a ls) (hl : ls.length ≤ 1000000) (hw : AllWf ls) :
    Calls Tryd.prog 22 #[entV s a ls.length cap] w fun e w' => e = .returned (.int .i64 (checkE s ls)) ∧ Below w.heap.size w w' := by
  have HX0 := Lib.hid hx
  unfold entV
  obtain ⟨wa, hwa⟩ : ∃ wa, w.alloc (.cells (entCs s a ls.length cap) 26) = wa := ⟨_, rfl⟩
  have hba : Below w.heap.size w wa := by rw [← hwa]; exact (Below.refl _ _).alloc (Nat.le_refl _) _
  have hza : wa.heap.size = w.heap.size + 1 := by rw [← hwa]; simp
  have hx2 := Lib.hid (hx.after hba)
  have hbox : EBox wa w.heap.size s a ls.length cap := by rw [← hwa]; exact EBox.new _ _ _ _ _ _
  unfold entCs at hwa
  have HZA := Lib.hid hza
  clear hx hza
  have hR2 := hR.after hba
  obtain ⟨r0, r1, r2, r3, r4, r5, r6, r7, r8, r9⟩ := id hR2
  go_enter Tryd.func22, Tryd.ntmps22
  go_wp2_with fail
  have HE : Hid (checkE s ls = if rangesB s ls then (if linesB s ls then (if someB ls then (if fitsB ls then (if evenB ls then 0 else 20) else 11) else 12) else 1) else 10) := rfl
  have HW := Lib.hid hw
  clear r0 r1 r2 r3 r4 r5 r6 r7 r8 r9 hR2 hwa hR hw
  obtain ⟨g1, hg1⟩ : ∃ g, rangesB s ls = g := ⟨_, rfl⟩
  obtain ⟨g2, hg2⟩ : ∃ g, linesB s ls = g := ⟨_, rfl⟩
  obtain ⟨g3, hg3⟩ : ∃ g, someB ls = g := ⟨_, rfl⟩
  obtain ⟨g4, hg4⟩ : ∃ g, fitsB ls = g := ⟨_, rfl⟩
  obtain ⟨g5, hg5⟩ : ∃ g, evenB ls = g := ⟨_, rfl⟩
  rw [hg1, hg2, hg3, hg4, hg5] at HE
  have H1 := Lib.hid hg1
  have H2 := Lib.hid hg2
  have H3 := Lib.hid hg3
  have H4 := Lib.hid hg4
  have H5 := Lib.hid hg5
  clear hg1 hg2 hg3 hg4 hg5
  go_loopw [4, 6] (fun _ i wr => ∃ k : Nat, k ≤ 5 ∧ i = .int .i64 k ∧ (0 < k → g1 = true) ∧ (1 < k → g2 = true) ∧ (2 < k → g3 = true) ∧ (3 < k → g4 = true) ∧ (4 < k → g5 = true) ∧ EBox wr w.heap.size s a ls.length cap ∧ Below w.heap.size w wr ∧ w.heap.size + 1 ≤ wr.heap.size) (fun _ i _ => 5 - (intOf i).toNat)
  case atStart => exact ⟨0, by omega, rfl, fun h => absurd h (by omega), fun h => absurd h (by omega), fun h => absurd h (by omega), fun h => absurd h (by omega), fun h => absurd h (by omega), hbox, hba, by have := HZA.out; omega⟩
  case round =>
    obtain ⟨k, hk, rfl, p1, p2, p3, p4, p5, hb, hbl, zr⟩ := hrel
    have hln := HX0.out.after hbl
    have zb := hbl.size
    have zlt : w.heap.size < wr.heap.size := by omega
    obtain ⟨q0, q1, q2, q3, q4, q5, q6⟩ := id hb
    have HB := Lib.hid hb
    clear hx2 hbox hb
    rcases (show k = 0 ∨ k = 1 ∨ k = 2 ∨ k = 3 ∨ k = 4 ∨ k = 5 by omega) with rfl | rfl | rfl | rfl | rfl | rfl
    · have hix := idx0
      simp only [Int.natCast_zero, Int.cast_ofNat_Int]
      clear p1 p2 p3 p4 p5
      go_wp2_with fail
      refine (ranges_ok s a cap ls _ (hln.after ((Below.refl _ _).alloc (Nat.le_refl _) _)) hl).mono ?_
      rintro e w1 ⟨rfl, hb1⟩
      rw [H1.out]
      have hal : Below wr.heap.size wr w1 := ((Below.refl _ _).alloc (Nat.le_refl _) _).trans (hb1.mono (by simp))
      have hb2 := HB.out.after hal
      have hbl2 : Below w.heap.size w w1 := hbl.trans (hal.mono zb)
      have zz := hal.size
      have n1 := below_cell hb1 (show _ = some (Value.int .i64 _) from World.cell?_alloc_new _ _ _ 1)
      cases g1
      · go_wp2_with fail
        go_ret
        exact ⟨ret_int (by rw [HE.out]; rfl), hbl2⟩
      · clear n1
        go_wp2_with fail
        go_roundw
        case rel => exact ⟨1, by omega, by go_num, by simp, fun h => absurd h (by omega), fun h => absurd h (by omega), fun h => absurd h (by omega), fun h => absurd h (by omega), hb2, hbl2, by omega⟩
        case measure => simp [intOf]
    · have e1 := p1 (by omega)
      subst e1
      have hix := idx1
      simp only [Int.natCast_zero, Int.cast_ofNat_Int]
      clear p1 p2 p3 p4 p5
      go_wp2_with fail
      refine (lines_ok s a cap ls _ (hln.after ((Below.refl _ _).alloc (Nat.le_refl _) _)) hl).mono ?_
      rintro e w1 ⟨rfl, hb1⟩
      rw [H2.out]
      have hal : Below wr.heap.size wr w1 := ((Below.refl _ _).alloc (Nat.le_refl _) _).trans (hb1.mono (by simp))
      have hb2 := HB.out.after hal
      have hbl2 : Below w.heap.size w w1 := hbl.trans (hal.mono zb)
      have zz := hal.size
      have n1 := below_cell hb1 (show _ = some (Value.int .i64 _) from World.cell?_alloc_new _ _ _ 1)
      cases g2
      · go_wp2_with fail
        go_ret
        exact ⟨ret_int (by rw [HE.out]; rfl), hbl2⟩
      · clear n1
        go_wp2_with fail
        go_roundw
        case rel => exact ⟨2, by omega, by go_num, by simp, by simp, fun h => absurd h (by omega), fun h => absurd h (by omega), fun h => absurd h (by omega), hb2, hbl2, by omega⟩
        case measure => simp [intOf]
    · have e1 := p1 (by omega)
      have e2 := p2 (by omega)
      subst e1 e2
      have hix := idx2
      simp only [Int.natCast_zero, Int.cast_ofNat_Int]
      clear p1 p2 p3 p4 p5
      go_wp2_with fail
      refine (some_ok s a cap ls _ (hln.after ((Below.refl _ _).alloc (Nat.le_refl _) _)) hl).mono ?_
      rintro e w1 ⟨rfl, hb1⟩
      rw [H3.out]
      have hal : Below wr.heap.size wr w1 := ((Below.refl _ _).alloc (Nat.le_refl _) _).trans (hb1.mono (by simp))
      have hb2 := HB.out.after hal
      have hbl2 : Below w.heap.size w w1 := hbl.trans (hal.mono zb)
      have zz := hal.size
      have n1 := below_cell hb1 (show _ = some (Value.int .i64 _) from World.cell?_alloc_new _ _ _ 1)
      cases g3
      · go_wp2_with fail
        go_ret
        exact ⟨ret_int (by rw [HE.out]; rfl), hbl2⟩
      · clear n1
        go_wp2_with fail
        go_roundw
        case rel => exact ⟨3, by omega, by go_num, by simp, by simp, by simp, fun h => absurd h (by omega), fun h => absurd h (by omega), hb2, hbl2, by omega⟩
        case measure => simp [intOf]
    · have e1 := p1 (by omega)
      have e2 := p2 (by omega)
      have e3 := p3 (by omega)
      subst e1 e2 e3
      have hix := idx3
      simp only [Int.natCast_zero, Int.cast_ofNat_Int]
      clear p1 p2 p3 p4 p5
      go_wp2_with fail
      refine (fits_ok s a cap ls _ (hln.after ((Below.refl _ _).alloc (Nat.le_refl _) _)) hl).mono ?_
      rintro e w1 ⟨rfl, hb1⟩
      rw [H4.out]
      have hal : Below wr.heap.size wr w1 := ((Below.refl _ _).alloc (Nat.le_refl _) _).trans (hb1.mono (by simp))
      have hb2 := HB.out.after hal
      have hbl2 : Below w.heap.size w w1 := hbl.trans (hal.mono zb)
      have zz := hal.size
      have n1 := below_cell hb1 (show _ = some (Value.int .i64 _) from World.cell?_alloc_new _ _ _ 1)
      cases g4
      · go_wp2_with fail
        go_ret
        exact ⟨ret_int (by rw [HE.out]; rfl), hbl2⟩
      · clear n1
        go_wp2_with fail
        go_roundw
        case rel => exact ⟨4, by omega, by go_num, by simp, by simp, by simp, by simp, fun h => absurd h (by omega), hb2, hbl2, by omega⟩
        case measure => simp [intOf]
    · have e1 := p1 (by omega)
      have e2 := p2 (by omega)
      have e3 := p3 (by omega)
      have e4 := p4 (by omega)
      subst e1 e2 e3 e4
      have hix := idx4
      simp only [Int.natCast_zero, Int.cast_ofNat_Int]
      clear p1 p2 p3 p4 p5
      go_wp2_with fail
      refine (even_ok s a cap ls _ (hln.after ((Below.refl _ _).alloc (Nat.le_refl _) _)) hl HW.out).mono ?_
      rintro e w1 ⟨rfl, hb1⟩
      rw [H5.out]
      have hal : Below wr.heap.size wr w1 := ((Below.refl _ _).alloc (Nat.le_refl _) _).trans (hb1.mono (by simp))
      have hb2 := HB.out.after hal
      have hbl2 : Below w.heap.size w w1 := hbl.trans (hal.mono zb)
      have zz := hal.size
      have n1 := below_cell hb1 (show _ = some (Value.int .i64 _) from World.cell?_alloc_new _ _ _ 1)
      cases g5
      · go_wp2_with fail
        go_ret
        exact ⟨ret_int (by rw [HE.out]; rfl), hbl2⟩
      · clear n1
        go_wp2_with fail
        go_roundw
        case rel => exact ⟨5, by omega, by go_num, by simp, by simp, by simp, by simp, by simp, hb2, hbl2, by omega⟩
        case measure => simp [intOf]
    · have e1 := p1 (by omega)
      have e2 := p2 (by omega)
      have e3 := p3 (by omega)
      have e4 := p4 (by omega)
      have e5 := p5 (by omega)
      subst e1 e2 e3 e4 e5
      clear p1 p2 p3 p4 p5
      go_wp2_with fail
      go_ret
      exact ⟨ret_int (by rw [HE.out]; rfl), hbl⟩

end Go.Proofs.YtmjgcenhgpkhiaaDoor
