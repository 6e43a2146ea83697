/- Package adjust: Entries. -/
import Derived.Test.YtmjgcenhgpkhiaaDoorMgI
namespace Go.Proofs.YtmjgcenhgpkhiaaDoor
open Go.RowKit Go.Sort Go.Shelf
set_option linter.unusedVariables false
set_option linter.unusedSimpArgs false
set_option maxRecDepth 100000

def chCs (x : Cg) : List Value := [.int .i64 x.no, .int .i64 x.d, .int .i64 x.c, .int .i64 x.o, .int .i64 x.n]
def EntsEnd (con h v : Int) (err : Int → Int) (ans : Int → EnP) (cs : List Cg) (w : World) (e : Ending) (w' : World) : Prop :=
  Below w.heap.size w w' ∧ ((entsE con h v err ans cs = 0 ∧ ∃ a cap X, e = .returned (.tuple #[.slice a X.length cap, .int .i64 0]) ∧ X.map En.p = entsL con h v ans cs ∧ SlAt w' 7 En.cs a cap X ∧ (∀ e ∈ X, EnOk w' e))
    ∨ (entsE con h v err ans cs ≠ 0 ∧ e = .returned (.tuple #[.slice none 0 0, .int .i64 (entsE con h v err ans cs)])))
structure EfRel (con h v : Int) (err : Int → Int) (ans : Int → EnP) (cs : List Cg) (w : World) (B k : Nat) (wr : World) : Prop where
  out : OutAt w.heap.size B wr.heap.size (entsL con h v ans (cs.take k)) wr
  be : Below w.heap.size w wr
  ok : ∀ j, j < k → ∀ x, cs[j]? = some x → chE con h v err ans x = 0
theorem EfRel.next {con h v : Int} {err : Int → Int} {ans : Int → EnP} {cs : List Cg} {w : World} {B k : Nat} {c : Cg} {w7 : World} (hx : cs[k]? = some c) (hk : ∀ j, j < k → ∀ x, cs[j]? = some x → chE con h v err ans x = 0) (hr : rvE err ans c = 0) (hf : flE con h v c = 0)
    (ho : OutAt w.heap.size B w7.heap.size (entsL con h v ans (cs.take k) ++ rvL ans c ++ flL con h v c) w7) (hb : Below w.heap.size w w7) : EfRel con h v err ans cs w B (k + 1) w7 := by
  refine ⟨?_, hb, fun j hj x hxj => ?_⟩
  · rw [entsL_take con h v ans hx]
    unfold chL
    rw [← List.append_assoc]
    exact ho
  · rcases Nat.lt_or_ge j k with h1 | h1
    · exact hk j h1 x hxj
    · obtain rfl : j = k := by omega
      rw [hx] at hxj
      cases hxj
      unfold chE
      rw [if_pos hr]
      exact hf
theorem ents_bad {con h v : Int} {err : Int → Int} {ans : Int → EnP} {cs : List Cg} {k : Nat} {c : Cg} {z : Int} (hx : cs[k]? = some c) (hk : ∀ j, j < k → ∀ x, cs[j]? = some x → chE con h v err ans x = 0) (hz : chE con h v err ans c = z) (h0 : z ≠ 0) {w w' : World} (hb : Below w.heap.size w w') :
    EntsEnd con h v err ans cs w (.returned (.tuple #[.slice none 0 0, .int .i64 z])) w' := by
  have he := entsE_bad con h v err ans hx hk (by rw [hz]; exact h0)
  rw [hz] at he
  exact ⟨hb, .inr ⟨by rw [he]; exact h0, by rw [he]⟩⟩
theorem nil_entries (con h v : Int) (a : Option Addr) (n cap : Nat) (w : World) : Calls Tryd.prog 8 #[.int .i64 con, .int .i64 h, .int .i64 v, .nilFunc, .slice a n cap] w fun e w' => e = .returned (.tuple #[.slice none 0 0, .int .i64 2]) ∧ w = w' := by
  have hnf : ∀ W, (binOp .eql 35 .nilFunc .nilFunc).run Tryd.prog W = .ok (.bool true) W := fun W => by kernel_rfl
  go_enter Tryd.func8, Tryd.ntmps8
  go_wp2_with fail
  go_ret2
  exact ⟨rfl, rfl⟩


set_option maxHeartbeats 8000000 in
theorem entries_ok (con h v : Int) (g : FuncId) (r : Value) (err : Int → Int) (ans : Int → EnP) (a : Option Addr) (cap : Nat) (cs : List Cg) (w : World) (hR : RulesAt w) (hG : Getter g r err ans w) (hc : RecsAt w a 5 chCs cs) (hs : cs = [] ∨ ∃ b o, a = some ⟨b, o, none⟩ ∧ b < w.heap.size) (hl : cs.length ≤ 400) (hwf : ∀ x ∈ cs, -9223372036854775808 ≤ x.n ∧ x.n ≤ 9223372036854775807) :
    Calls Tryd.prog 8 #[.int .i64 con, .int .i64 h, .int .i64 v, .func (.func g) #[r] #[], .slice a cs.length cap] w (EntsEnd con h v err ans cs w) := by
  have hen := hG.enters
  have hnf : ∀ W, (binOp .eql 35 (.func (.func g) #[r] #[]) .nilFunc).run Tryd.prog W = .ok (.bool false) W := fun W => by kernel_rfl
  obtain ⟨B, hB⟩ : ∃ n, w.heap.size = n := ⟨_, rfl⟩
  have HR := Lib.hid hR
  have HG := Lib.hid hG
  have HC := Lib.hid hc
  have HS := Lib.hid hs
  have HWF := Lib.hid hwf
  have HBB := Lib.hid hB
  have HE0 : Hid (EfRel con h v err ans cs w B 0 (w.alloc (.cells #[.slice none 0 0] 31))) := by
    have h1 := OutAt.new (w := w) (base := w.heap.size)
    rw [hB] at h1
    have h2 : Below w.heap.size w (w.alloc (.cells #[.slice none 0 0] 31)) := (Below.refl _ _).alloc (Nat.le_refl _) _
    refine ⟨?_, h2, fun j hj => absurd hj (by omega)⟩
    rw [hB]
    obtain ⟨a1, c1, X1, g1, g2, g3, g4, g5, g6⟩ := h1.ex
    exact ⟨a1, c1, X1, g1, g2, g3, g4, g5, fun q hq => by have := g6 q hq; omega⟩
  clear hR hG hc hs hwf hB
  go_enter Tryd.func8, Tryd.ntmps8
  go_wp2_with fail
  rw [HBB.out]
  go_loopw [25] (fun i wr => ∃ k : Nat, k ≤ cs.length ∧ i = .int .i64 (k : Int) ∧ Hid (EfRel con h v err ans cs w B k wr)) (fun i _ => cs.length - (intOf i).toNat)
  case atStart => exact ⟨0, by omega, rfl, HE0⟩
  case round =>
    obtain ⟨k, hk, rfl, HQ⟩ := hrel
    by_cases hlt : k < cs.length
    · obtain ⟨x, hy⟩ : ∃ x, cs[k]'hlt = x := ⟨_, rfl⟩
      have hx : cs[k]? = some x := by rw [← hy]; exact List.getElem?_eq_getElem hlt
      have HXk := Lib.hid hx
      have HKk := Lib.hid HQ.out.ok
      have hwfx := HWF.out x (List.mem_of_getElem? hx)
      obtain ⟨b0, o0, rfl, hb0⟩ : ∃ b o, a = some ⟨b, o, none⟩ ∧ b < w.heap.size := by
        rcases HS.out with e | e
        · subst e; simp at hlt
        · exact e
      obtain ⟨no, d, cu, o, n⟩ := x
      have hXr : RecsAt wr (some ⟨b0, o0, none⟩) 5 chCs cs := RowsAt.after HC.out HQ.out.be
      have q0 : wr.cell? ⟨b0, o0 + k * 5, none⟩ = some (.int .i64 no) := RecsAt.cell hXr rfl hlt hx (j := 0) rfl
      have q1 : wr.cell? ⟨b0, o0 + k * 5 + 1, none⟩ = some (.int .i64 d) := RecsAt.cell hXr rfl hlt hx (j := 1) rfl
      have q2 : wr.cell? ⟨b0, o0 + k * 5 + 2, none⟩ = some (.int .i64 cu) := RecsAt.cell hXr rfl hlt hx (j := 2) rfl
      have q3 : wr.cell? ⟨b0, o0 + k * 5 + 3, none⟩ = some (.int .i64 o) := RecsAt.cell hXr rfl hlt hx (j := 3) rfl
      have q4 : wr.cell? ⟨b0, o0 + k * 5 + 4, none⟩ = some (.int .i64 n) := RecsAt.cell hXr rfl hlt hx (j := 4) rfl
      have i1 : (0 : Int) ≤ (k : Int) := by omega
      have i2 : (k : Int) < (cs.length : Int) := by omega
      obtain ⟨w1, hw1⟩ : ∃ W, wr.alloc (.cells #[.int .i64 no, .int .i64 d, .int .i64 cu, .int .i64 o, .int .i64 n] 39) = W := ⟨_, rfl⟩
      have hb1 : Below wr.heap.size wr w1 := by rw [← hw1]; exact (Below.refl _ _).alloc (Nat.le_refl _) _
      have K1 : Blk w1 wr.heap.size #[.int .i64 no, .int .i64 d, .int .i64 cu, .int .i64 o, .int .i64 n] 39 := by rw [← hw1]; exact Blk.new _ _ _
      have d0 : w1.cell? ⟨wr.heap.size, 0, none⟩ = some (.int .i64 no) := K1.cell 0 rfl
      have d1 : w1.cell? ⟨wr.heap.size, 1, none⟩ = some (.int .i64 d) := K1.cell 1 rfl
      have d2 : w1.cell? ⟨wr.heap.size, 2, none⟩ = some (.int .i64 cu) := K1.cell 2 rfl
      have d4 : w1.cell? ⟨wr.heap.size, 4, none⟩ = some (.int .i64 n) := K1.cell 4 rfl
      have HK1 := Lib.hid K1
      have HB1 := Lib.hid hb1
      have HB1w := Lib.hid (HQ.out.be.trans (hb1.mono HQ.out.be.size))
      have HO1 : Hid (OutAt w.heap.size B w1.heap.size (entsL con h v ans (cs.take k)) w1) := (HQ.out.out.after hb1).up (Nat.le_refl _)
      have HLe : Hid ((entsL con h v ans (cs.take k)).length ≤ 800) := by
        have h1 := entsL_len con h v ans (cs.take k)
        rw [List.length_take] at h1
        show _ ≤ _
        omega
      clear hy hx hXr K1 hb1
      go_upto_region 8 with (fail)
      clear q0 q1 q2 q3 q4
      by_cases hno : no = -1
      · subst hno
        obtain ⟨LX, hLX⟩ : ∃ L, entsL con h v ans (cs.take k) = L := ⟨_, rfl⟩
        have HRv : Hid (rvE err ans ⟨-1, d, cu, o, n⟩ = 0) := rfl
        have HLX : Hid (LX = entsL con h v ans (cs.take k) ++ rvL ans ⟨-1, d, cu, o, n⟩) := by show _ = _; rw [← hLX]; have hrl : rvL ans (⟨-1, d, cu, o, n⟩ : Cg) = [] := if_pos rfl; rw [hrl, List.append_nil]
        have HLL : Hid (LX.length ≤ 801) := by show _ ≤ _; rw [← hLX]; have := HLe.out; omega
        rw [hLX] at HO1
        clear hLX
        by_cases hn : n = 0
        · subst hn
          go_wp2_with fail
          go_roundw
          case rel => exact ⟨k + 1, by omega, by go_num, EfRel.next HXk.out HKk.out HRv.out rfl (by have := HO1.out; rw [show flL con h v (⟨-1, d, cu, o, 0⟩ : Cg) = [] from if_pos rfl, List.append_nil, ← HLX.out]; exact this) HB1w.out⟩
          case measure => simp [intOf]; omega
        · obtain ⟨FE, hFE⟩ : ∃ z, flowErr con d cu n h v = z := ⟨_, rfl⟩
          have hfh := flow_hand con d cu n h v w1 hwfx
          rw [hFE] at hfh
          have HFH := Lib.hid hfh
          have HFL : Hid (flE con h v ⟨-1, d, cu, o, n⟩ = FE) := by show _ = _; unfold flE; rw [if_neg hn]; exact hFE
          have HFP : Hid (flL con h v ⟨-1, d, cu, o, n⟩ = [flowP con d cu n h v]) := by show _ = _; unfold flL; rw [if_neg hn]
          clear hfh hFE
          go_wp2_with fail
          with_reducible refine HFH.out.mono ?_
          rintro e w6 ⟨y6, rfl, hy6, hyn6, hyp6, hb6⟩
          have HP6 := Lib.hid (put_ok w.heap.size B w1.heap.size LX y6 FE w6 (HO1.out.after hb6) (Nat.le_of_eq HBB.out) (by have := HLL.out; omega) hy6 hyn6)
          have HY6 := Lib.hid hyp6
          have HB6 := Lib.hid (HB1w.out.trans (hb6.mono HB1w.out.size))
          clear hy6 hyn6 hyp6 hb6
          go_wp2_with fail
          with_reducible refine HP6.out.mono ?_
          rintro e w7 ⟨rfl, ho7, hb7, hk7⟩
          have HO7 := Lib.hid ho7
          have HB7 := Lib.hid (HB6.out.trans hb7)
          clear ho7 hb7 hk7
          by_cases hf : FE = 0
          · subst hf
            go_wp2_with fail
            go_roundw
            case rel => exact ⟨k + 1, by omega, by go_num, EfRel.next HXk.out HKk.out HRv.out HFL.out (by have := HO7.out; rw [HY6.out (by first | rfl | trivial), HLX.out] at this; rw [HFP.out]; exact this) HB7.out⟩
            case measure => simp [intOf]; omega
          · go_wp2_with fail
            go_ret2
            exact ents_bad HXk.out HKk.out (by unfold chE; rw [if_pos HRv.out]; exact HFL.out) hf HB7.out
      · have HGc := Lib.hid (HG.out.call w1 HB1w.out no)
        obtain ⟨EN, hEN⟩ : ∃ z, err no = z := ⟨_, rfl⟩
        rw [hEN] at HGc
        have HEN := Lib.hid hEN
        have HNo := Lib.hid hno
        clear hEN
        go_wp2_with fail
        with_reducible refine HGc.out.mono ?_
        rintro e w2 ⟨⟨⟨y0, y1, y2, y3, y4, y5⟩, ya, yc, yl⟩, rfl, hy2, hyp2, hb2⟩
        dsimp only [entV]
        have K2 := HK1.out.after hb2
        have zb2 : wr.heap.size < w2.heap.size := K2.lt
        clear d0 d1 d2 d4
        have d0 : w2.cell? ⟨wr.heap.size, 0, none⟩ = some (.int .i64 no) := K2.cell 0 rfl
        have d1 : w2.cell? ⟨wr.heap.size, 1, none⟩ = some (.int .i64 d) := K2.cell 1 rfl
        have d2 : w2.cell? ⟨wr.heap.size, 2, none⟩ = some (.int .i64 cu) := K2.cell 2 rfl
        have d4 : w2.cell? ⟨wr.heap.size, 4, none⟩ = some (.int .i64 n) := K2.cell 4 rfl
        obtain ⟨w3, hw3⟩ : ∃ W, w2.alloc (.cells #[.int .i64 y0, .int .i64 y1, .int .i64 y2, .int .i64 y3, .int .i64 y4, .int .i64 y5, .slice ya yl.length yc] 26) = W := ⟨_, rfl⟩
        have hb3 : Below w2.heap.size w2 w3 := by rw [← hw3]; exact (Below.refl _ _).alloc (Nat.le_refl _) _
        have HB3 := Lib.hid (HB1w.out.trans ((hb2.trans (hb3.mono hb2.size)).mono HB1w.out.size))
        have HK3 := Lib.hid (K2.after hb3)
        have HO3 : Hid (OutAt w.heap.size B w3.heap.size (entsL con h v ans (cs.take k)) w3) := (HO1.out.after (hb2.trans (hb3.mono hb2.size))).up (Nat.le_refl _)
        have HY2 := Lib.hid hyp2
        obtain ⟨RE, hRE⟩ : ∃ z, revErr ⟨y0, y1, y2, y3, y4, y5⟩ yl no = z := ⟨_, rfl⟩
        have hrv := rev_hand ⟨⟨y0, y1, y2, y3, y4, y5⟩, ya, yc, yl⟩ no w3 (HR.out.after HB3.out) (hy2.after hb3)
        dsimp only [entV, En.p] at hrv
        rw [hRE] at hrv
        have HRV := Lib.hid hrv
        have HRE := Lib.hid hRE
        have HW3 := Lib.hid hw3
        clear hw3 hb3 hb2 K2 hy2 hyp2 hrv hRE HB1 HK1
        by_cases he : EN = 0
        · subst he
          go_wp2_with fail
          rw [HW3.out]
          with_reducible refine HRV.out.mono ?_
          rintro e w4 ⟨Y4, rfl, hy4, hyn4, hyp4, hb4⟩
          have HP4 := Lib.hid (put_ok w.heap.size B w3.heap.size (entsL con h v ans (cs.take k)) Y4 RE w4 (HO3.out.after hb4) (Nat.le_of_eq HBB.out) (by have := HLe.out; omega) hy4 hyn4)
          have HY4 := Lib.hid hyp4
          have HB4 := Lib.hid (HB3.out.trans (hb4.mono HB3.out.size))
          have HK4 := Lib.hid (HK3.out.after hb4)
          clear hy4 hyn4 hyp4 hb4 d0 d1 d2 d4
          go_wp2_with fail
          with_reducible refine HP4.out.mono ?_
          rintro e w5 ⟨rfl, ho5, hb5, hk5⟩
          have K5 := hk5 _ _ _ HK4.out (by decide) (by have := HBB.out; have := HQ.out.be.size; have := HQ.out.out.ex; obtain ⟨_, _, _, hB, _⟩ := this; have := hB.lt; omega)
          have d1 : w5.cell? ⟨wr.heap.size, 1, none⟩ = some (.int .i64 d) := K5.cell 1 rfl
          have d2 : w5.cell? ⟨wr.heap.size, 2, none⟩ = some (.int .i64 cu) := K5.cell 2 rfl
          have d4 : w5.cell? ⟨wr.heap.size, 4, none⟩ = some (.int .i64 n) := K5.cell 4 rfl
          have HB5 := Lib.hid (HB4.out.trans hb5)
          have HO5 := Lib.hid ho5
          by_cases hre : RE = 0
          · subst hre
            obtain ⟨LX, hLX⟩ : ∃ L, entsL con h v ans (cs.take k) ++ [Y4.p] = L := ⟨_, rfl⟩
            have HYA : Hid (({ s := ⟨y0, y1, y2, y3, y4, y5⟩, ls := yl } : EnP) = ans no) := HY2.out (by first | rfl | trivial)
            have HYB : Hid (Y4.p = revP ⟨⟨y0, y1, y2, y3, y4, y5⟩, yl⟩ no) := HY4.out (by first | rfl | trivial)
            have HRv : Hid (rvE err ans ⟨no, d, cu, o, n⟩ = 0) := by
              show _ = _
              unfold rvE
              rw [if_neg (show ¬ (⟨no, d, cu, o, n⟩ : Cg).no = -1 from HNo.out), if_pos (show err (⟨no, d, cu, o, n⟩ : Cg).no = 0 from HEN.out)]
              show revErr (ans no).s (ans no).ls no = 0
              rw [← HYA.out]
              exact HRE.out
            have HLX : Hid (LX = entsL con h v ans (cs.take k) ++ rvL ans ⟨no, d, cu, o, n⟩) := by
              show _ = _
              rw [← hLX]
              unfold rvL
              rw [if_neg (show ¬ (⟨no, d, cu, o, n⟩ : Cg).no = -1 from HNo.out)]
              show _ ++ [Y4.p] = _ ++ [revP (ans no) no]
              rw [HYB.out, HYA.out]
            have HLL : Hid (LX.length ≤ 801) := by show _ ≤ _; rw [← hLX, List.length_append]; have := HLe.out; simp; omega
            rw [hLX] at HO5
            clear hLX ho5 hb5 hk5 K5
            by_cases hn : n = 0
            · subst hn
              go_wp2_with fail
              go_roundw
              case rel => exact ⟨k + 1, by omega, by go_num, EfRel.next HXk.out HKk.out HRv.out rfl (by have := HO5.out; rw [show flL con h v (⟨no, d, cu, o, 0⟩ : Cg) = [] from if_pos rfl, List.append_nil, ← HLX.out]; exact this) HB5.out⟩
              case measure => simp [intOf]; omega
            · obtain ⟨FE, hFE⟩ : ∃ z, flowErr con d cu n h v = z := ⟨_, rfl⟩
              have hfh := flow_hand con d cu n h v w5 hwfx
              rw [hFE] at hfh
              have HFH := Lib.hid hfh
              have HFL : Hid (flE con h v ⟨no, d, cu, o, n⟩ = FE) := by show _ = _; unfold flE; rw [if_neg hn]; exact hFE
              have HFP : Hid (flL con h v ⟨no, d, cu, o, n⟩ = [flowP con d cu n h v]) := by show _ = _; unfold flL; rw [if_neg hn]
              clear hfh hFE
              go_wp2_with fail
              with_reducible refine HFH.out.mono ?_
              rintro e w6 ⟨y6, rfl, hy6, hyn6, hyp6, hb6⟩
              have HP6 := Lib.hid (put_ok w.heap.size B w5.heap.size LX y6 FE w6 (HO5.out.after hb6) (Nat.le_of_eq HBB.out) (by have := HLL.out; omega) hy6 hyn6)
              have HY6 := Lib.hid hyp6
              have HB6 := Lib.hid (HB5.out.trans (hb6.mono HB5.out.size))
              clear hy6 hyn6 hyp6 hb6
              go_wp2_with fail
              with_reducible refine HP6.out.mono ?_
              rintro e w7 ⟨rfl, ho7, hb7, hk7⟩
              have HO7 := Lib.hid ho7
              have HB7 := Lib.hid (HB6.out.trans hb7)
              clear ho7 hb7 hk7
              by_cases hf : FE = 0
              · subst hf
                go_wp2_with fail
                go_roundw
                case rel => exact ⟨k + 1, by omega, by go_num, EfRel.next HXk.out HKk.out HRv.out HFL.out (by have := HO7.out; rw [HY6.out (by first | rfl | trivial), HLX.out] at this; rw [HFP.out]; exact this) HB7.out⟩
                case measure => simp [intOf]; omega
              · go_wp2_with fail
                go_ret2
                exact ents_bad HXk.out HKk.out (by unfold chE; rw [if_pos HRv.out]; exact HFL.out) hf HB7.out
          · go_wp2_with fail
            go_ret2
            exact ents_bad HXk.out HKk.out (by
              unfold chE rvE
              rw [if_neg (show ¬ (⟨no, d, cu, o, n⟩ : Cg).no = -1 from HNo.out), if_pos (show err (⟨no, d, cu, o, n⟩ : Cg).no = 0 from HEN.out)]
              have hYA : ({ s := ⟨y0, y1, y2, y3, y4, y5⟩, ls := yl } : EnP) = ans no := HY2.out (by first | rfl | trivial)
              show (if revErr (ans no).s (ans no).ls no = 0 then _ else revErr (ans no).s (ans no).ls no) = RE
              rw [← hYA]
              dsimp only
              rw [HRE.out, if_neg hre]) hre HB5.out
        · go_wp2_with fail
          go_ret2
          exact ents_bad HXk.out HKk.out (by unfold chE rvE; rw [if_neg HNo.out, HEN.out]; rw [if_neg he, if_neg he]) he (by rw [HW3.out]; exact HB3.out)
    · obtain rfl : k = cs.length := by omega
      obtain ⟨a9, c9, X9, hB9, hO9, hX9, hok9, _, _⟩ := HQ.out.out.ex
      have m0 : wr.cell? ⟨B, 0, none⟩ = some (.slice a9 X9.length c9) := hB9.cell 0 rfl
      obtain ⟨a8, c8, e8, hsl, _⟩ := sl_own (enc := En.cs) En.len7 hO9
      cases e8
      have HSL := Lib.hid hsl
      have HX9 := Lib.hid hX9
      have HOK := Lib.hid hok9
      clear hB9 hO9 hX9 hok9 hsl
      go_wp2_with fail
      go_ret2
      exact ⟨HQ.out.be, .inl ⟨entsE_ok con h v err ans (fun j x hj => HQ.out.ok j (List.getElem?_eq_some_iff.1 hj).1 x hj), _, _, X9, rfl, by rw [HX9.out, List.take_length], HSL.out, HOK.out⟩⟩

end Go.Proofs.YtmjgcenhgpkhiaaDoor
