/- chattellaw01.AmountWhole: the walk. -/
import Derived.Test.YtncodoaphfeefaaAmtX
import Derived.Test.YtncodoaphfeefaaAmtW
import Derived.Test.YtncodoaphfeefaaAmtI
import Derived.Deep.CutRange
namespace Go.Proofs.Ytncodoaphfeefaa
open Go.RowKit Go.Shelf Go.Lib Go.Sort
set_option linter.unusedVariables false
set_option linter.unusedSimpArgs false

theorem split_whole (total : Int) (t1 : -9223372036854775808 ≤ total) (t2 : total ≤ 9223372036854775807) (a : Option Addr) (cap : Nat) (ws : List Int) (hl : ws.length ≤ 64) (hr : ∀ x ∈ ws, -9223372036854775808 ≤ x ∧ x ≤ 9223372036854775807) (w : World) (hx : RowAt w a ws.length (numV ws)) :
    Calls Try.prog 15 #[.int .i64 total, .slice a ws.length cap] w fun e w' => ∃ v E, e = .returned (.tuple #[v, .int .i64 E]) ∧ Below w.heap.size w w' ∧ (E ≠ 0 → v = .slice none 0 0) ∧
      (E = 0 → ∃ a' cap' xs, v = .slice a' ws.length cap' ∧ WholeL total ws xs ∧ fitV xs.sum = (total, 0) ∧ (∀ x ∈ xs, -9223372036854775808 ≤ x ∧ x ≤ 9223372036854775807) ∧ RowAt w' a' ws.length (numV xs)) := by
  refine (split_ok total t1 t2 a cap ws (by omega) hr (fun h => stable_all _ h) w hx).mono ?_
  rintro e w' ⟨v, rfl, hb, h1, h2⟩
  refine ⟨v, _, rfl, hb, h1, fun hE => ?_⟩
  obtain ⟨d, hd, hown⟩ := h2 hE
  unfold splitE at hE
  by_cases c1 : ws.length < 1 ∨ 64 < ws.length
  · rw [if_pos c1] at hE; omega
  rw [if_neg c1] at hE
  by_cases c2 : ∃ w ∈ ws, w < 0
  · rw [if_pos c2] at hE; omega
  rw [if_neg c2] at hE
  by_cases c3 : fitsI ws.sum = false ∨ total = -9223372036854775808
  · rw [if_pos c3] at hE; omega
  rw [if_neg c3] at hE
  by_cases c4 : ws.sum = 0
  · rw [if_pos c4] at hE; omega
  have hp : ∀ w ∈ ws, 0 ≤ w := fun w hw => by
    by_cases h : w < 0
    · exact absurd ⟨w, hw, h⟩ c2
    · omega
  have hs := sumW_all hp
  have hW := splitL_whole hp (by omega) hd
  obtain ⟨xs, hxs⟩ : ∃ xs, splitL total total.natAbs ws.sum.natAbs ws d ws.length = xs := ⟨_, rfl⟩
  rw [hxs] at hW hown
  obtain ⟨a', cap', rfl, _, hrow⟩ := own_num hown hW.len
  have ht : total ≠ -9223372036854775808 := fun h => c3 (.inr h)
  refine ⟨a', cap', xs, rfl, hW, ?_, fun x hx => ?_, hrow⟩
  · rw [hW.sum]
    exact fitV_yes (fits_iff.2 ⟨t1, t2⟩)
  · have := hW.bnd x hx
    omega

theorem RowAt.cellsAt {w : World} {b o n : Nat} {f : Nat → Value} {W : World} {a : Option Addr} (h : RowAt w a n f) (hb : Below w.heap.size w W) (e : a = some ⟨b, o, none⟩) : ∀ i, i < n → W.cell? ⟨b, o + i, none⟩ = some (f i) := fun i hi => by
  obtain ⟨b', o', e', hc⟩ := (h.after hb) (by omega)
  rw [e] at e'
  cases e'
  exact hc i hi
set_option maxHeartbeats 8000000 in
set_option maxRecDepth 100000 in
theorem whole_ok (total : Int) (t1 : -9223372036854775808 ≤ total) (t2 : total ≤ 9223372036854775807) (a : Option Addr) (cap : Nat) (ws : List Int) (hr : ∀ x ∈ ws, -9223372036854775808 ≤ x ∧ x ≤ 9223372036854775807) (w : World) (hx : RowAt w a ws.length (numV ws)) :
    Calls Try.prog 5 #[.int .i64 total, .slice a ws.length cap] w fun e w' => e = .returned (.bool true) ∧ Below w.heap.size w w' := by
  by_cases hl : 64 < ws.length
  · have hl' : 64 < (ws.length : Int) := by omega
    have d0 := Below.refl w.heap.size w
    clear hx hr hl t1 t2
    go_enter Try.func5, Try.ntmps5
    go_wp2_with fail
    with_reducible refine (awake_ok _).mono ?_
    rintro e w9 ⟨rfl, b9⟩
    go_wp2_with fail
    go_ret
    exact ⟨by simp, d0.trans (b9.mono d0.size)⟩
  have hl64 : decide (64 < (ws.length : Int)) = false := decide_eq_false (by omega)
  have HSp := Lib.hid (split_whole total t1 t2 a cap ws (by omega) hr w hx)
  have HX := Lib.hid hx
  have HL : Hid (ws.length ≤ 64) := by show _ ≤ _; omega
  clear hx hr hl t1 t2
  obtain ⟨n, hn⟩ : ∃ n, ws.length = n := ⟨_, rfl⟩
  rw [hn] at HSp HX HL hl64 ⊢
  have HN := Lib.hid hn
  clear hn
  go_enter Try.func5, Try.ntmps5
  go_wp2_with fail
  with_reducible refine HSp.out.mono ?_
  rintro e w1 ⟨v, E, rfl, hb1, hno, hok⟩
  clear HSp
  by_cases hE : E = 0
  · obtain ⟨a', cap', xs, rfl, hW, hf, hrx, hrow⟩ := hok hE
    subst hE
    have hnn : ((n : Int) != (n : Int)) = false := bne_self_eq_false _
    have htt : (total != total) = false := bne_self_eq_false _
    have HSu := Lib.hid (sum_fitV a' cap' xs total 0 w1 (by rw [hW.len, HN.out]; exact hrow) hrx (by rw [hW.len, HN.out]; have := HL.out; omega) hf)
    rw [hW.len, HN.out] at HSu
    have HW := Lib.hid hW
    have HY := Lib.hid hrow
    clear hno hok hW hf hrx hrow hl64
    go_wp2_with fail
    with_reducible refine HSu.out.mono ?_
    rintro e w2 ⟨rfl, hb2⟩
    have HY2 := Lib.hid (HY.out.after hb2)
    have HX2 := Lib.hid ((HX.out.after hb1).after hb2)
    have hb := hb1.trans (hb2.mono hb1.size)
    clear HSu HY HX hb1 hb2 hnn
    have hb0 := Below.refl w2.heap.size w2
    go_wp2_with fail
    go_loopw [9, 10] (fun c _ wr => ∃ i : Nat, c = .int .i64 (i : Int) ∧ i ≤ n ∧ Below w2.heap.size w2 wr) (fun c _ _ => n - (intOf c).toNat)
    case atStart => exact ⟨0, rfl, by omega, hb0⟩
    case round =>
      clear hb0
      obtain ⟨i, rfl, hi, hbr⟩ := hrel
      by_cases hlt : i < n
      · have hlt' : (i : Int) < (n : Int) := by omega
        obtain ⟨bx, ox, rfl, hcx⟩ := (HX2.out.after hbr) (by omega)
        obtain ⟨by_, oy, rfl, hcy⟩ := (HY2.out.after hbr) (by omega)
        have cx : wr.cell? ⟨bx, ox + i, none⟩ = some (.int .i64 (ws.getD i 0)) := hcx i hlt
        have cy : wr.cell? ⟨by_, oy + i, none⟩ = some (.int .i64 (xs.getD i 0)) := hcy i hlt
        have HCx := Lib.hid hcx
        have HCy := Lib.hid hcy
        have hsg := HW.out.sgn i (by rw [HN.out]; exact hlt)
        obtain ⟨wi, hwi⟩ : ∃ x, ws.getD i 0 = x := ⟨_, rfl⟩
        obtain ⟨xi, hxi⟩ : ∃ x, xs.getD i 0 = x := ⟨_, rfl⟩
        rw [hwi] at cx hsg
        rw [hxi] at cy hsg
        have HWi := Lib.hid hwi
        have HXi := Lib.hid hxi
        have HSg := Lib.hid hsg
        have hwk : IntKind.i64.wrap ((i : Int) + 1) = (i : Int) + 1 := IntWalk.i64_in _ (by have := HL.out; omega)
        clear hcx hcy hwi hxi hsg
        go_upto_region 14 with fail
        go_cut [85] from 46 to 130 (fun v wx => v = .bool false ∧ wx = wr)
        case first =>
          clear htt
          rcases Int.lt_trichotomy total 0 with ht | ht | ht
          · have g1 : decide (0 ≤ total) = false := decide_eq_false (by omega)
            have g2 : decide (total ≤ 0) = true := decide_eq_true (by omega)
            have g3 : decide (0 < xi) = false := decide_eq_false (by have := HSg.out.2.1 (by omega); omega)
            by_cases hz : wi = 0
            · have z1 : (wi == 0) = true := by simp [hz]
              have z2 : (xi != 0) = false := by simp [HSg.out.2.2 hz]
              clear hz
              go_wp2_with fail
              go_meet
              case rel => exact ⟨rfl, rfl⟩
            · have z1 : (wi == 0) = false := by simp [hz]
              clear hz
              go_wp2_with fail
              go_meet
              case rel => exact ⟨rfl, rfl⟩
          · subst ht
            have g3 : decide (0 < xi) = false := decide_eq_false (by have := HSg.out.2.1 (by omega); omega)
            have g4 : decide (xi < 0) = false := decide_eq_false (by have := HSg.out.1 (by omega); omega)
            by_cases hz : wi = 0
            · have z1 : (wi == 0) = true := by simp [hz]
              have z2 : (xi != 0) = false := by simp [HSg.out.2.2 hz]
              clear hz
              go_wp2_with fail
              go_meet
              case rel => exact ⟨rfl, rfl⟩
            · have z1 : (wi == 0) = false := by simp [hz]
              clear hz
              go_wp2_with fail
              go_meet
              case rel => exact ⟨rfl, rfl⟩
          · have g1 : decide (0 ≤ total) = true := decide_eq_true (by omega)
            have g2 : decide (total ≤ 0) = false := decide_eq_false (by omega)
            have g4 : decide (xi < 0) = false := decide_eq_false (by have := HSg.out.1 (by omega); omega)
            by_cases hz : wi = 0
            · have z1 : (wi == 0) = true := by simp [hz]
              have z2 : (xi != 0) = false := by simp [HSg.out.2.2 hz]
              clear hz
              go_wp2_with fail
              go_meet
              case rel => exact ⟨rfl, rfl⟩
            · have z1 : (wi == 0) = false := by simp [hz]
              clear hz
              go_wp2_with fail
              go_meet
              case rel => exact ⟨rfl, rfl⟩
        case rest =>
          obtain ⟨rfl, rfl⟩ := hcut
          clear cx cy
          have hb0 := hbr
          go_wp2_with fail
          go_loopw [10] (fun c wk => ∃ k : Nat, c = .int .i64 (k : Int) ∧ k ≤ n ∧ Below w2.heap.size w2 wk) (fun c _ => n - (intOf c).toNat)
          case atStart => exact ⟨0, rfl, by omega, hb0⟩
          case round =>
            clear hb0 hbr
            obtain ⟨k, rfl, hk, hbr⟩ := hrel
            by_cases hklt : k < n
            · have hklt' : (k : Int) < (n : Int) := by omega
              have hcx := HX2.out.cellsAt hbr rfl
              have hcy := HY2.out.cellsAt hbr rfl
              have cx : wr.cell? ⟨bx, ox + i, none⟩ = some (.int .i64 (ws.getD i 0)) := hcx i hlt
              have cy : wr.cell? ⟨by_, oy + i, none⟩ = some (.int .i64 (xs.getD i 0)) := hcy i hlt
              have dx : wr.cell? ⟨bx, ox + k, none⟩ = some (.int .i64 (ws.getD k 0)) := hcx k hklt
              have dy : wr.cell? ⟨by_, oy + k, none⟩ = some (.int .i64 (xs.getD k 0)) := hcy k hklt
              have hmo := HW.out.mono i k (by rw [HN.out]; exact hlt) (by rw [HN.out]; exact hklt)
              rw [HWi.out] at cx hmo
              rw [HXi.out] at cy hmo
              obtain ⟨wk, hwk2⟩ : ∃ x, ws.getD k 0 = x := ⟨_, rfl⟩
              obtain ⟨xk, hxk⟩ : ∃ x, xs.getD k 0 = x := ⟨_, rfl⟩
              rw [hwk2] at dx hmo
              rw [hxk] at dy hmo
              have HMo := Lib.hid hmo
              have hkk : IntKind.i64.wrap ((k : Int) + 1) = (k : Int) + 1 := IntWalk.i64_in _ (by have := HL.out; omega)
              clear hcx hcy hwk2 hxk hmo
              go_upto_region 19 with fail
              go_cut [130] from 86 to 130 (fun v wx => v = .bool false ∧ Below wr.heap.size wr wx)
              case first =>
                clear htt
                by_cases hwl : wk < wi
                · have z0 : decide (wk < wi) = true := decide_eq_true hwl
                  rcases Int.lt_trichotomy total 0 with ht | ht | ht
                  · have g1 : decide (0 < total) = false := decide_eq_false (by omega)
                    have g2 : decide (total < 0) = true := decide_eq_true ht
                    have g3 : decide (xk < xi) = false := decide_eq_false (by have := (HMo.out hwl).2 ht; omega)
                    clear hwl
                    go_wp2_with (go_quiet (fail))
                    go_meet
                    case rel => exact ⟨rfl, below_draws _ _⟩
                  · subst ht
                    clear hwl
                    go_wp2_with (go_quiet (fail))
                    go_meet
                    case rel => exact ⟨rfl, below_draws _ _⟩
                  · have g1 : decide (0 < total) = true := decide_eq_true ht
                    have g2 : decide (total < 0) = false := decide_eq_false (by omega)
                    have g3 : decide (xi < xk) = false := decide_eq_false (by have := (HMo.out hwl).1 ht; omega)
                    clear hwl
                    go_wp2_with (go_quiet (fail))
                    go_meet
                    case rel => exact ⟨rfl, below_draws _ _⟩
                · have z0 : decide (wk < wi) = false := decide_eq_false hwl
                  clear hwl
                  go_wp2_with (go_quiet (fail))
                  go_meet
                  case rel => exact ⟨rfl, below_draws _ _⟩
              case rest =>
                obtain ⟨rfl, hbx⟩ := hcut
                have hb5 := hbr.trans (hbx.mono hbr.size)
                clear hbr hbx cx cy dx dy
                go_wp2_with fail
                go_roundw
                case rel => first | exact ⟨k + 1, by go_num, by omega, hb5⟩ | ((repeat apply Exists.intro); exact ⟨⟨k + 1, by go_num, by omega, hb5⟩, rfl⟩)
                case measure => simp [intOf]; omega
            · obtain rfl : n = k := by omega
              have hb5 := hbr
              clear hbr
              go_wp2_with fail
              go_roundw
              case rel => first | exact ⟨i + 1, by go_num, by omega, hb5⟩ | ((repeat apply Exists.intro); exact ⟨⟨i + 1, by go_num, by omega, hb5⟩, rfl⟩)
              case measure => simp [intOf]; omega
      · obtain rfl : n = i := by omega
        go_wp2_with fail
        with_reducible refine (awake_ok _).mono ?_
        rintro e w9 ⟨rfl, b9⟩
        go_wp2_with fail
        go_ret
        have c1 := hb.trans (hbr.mono hb.size)
        exact ⟨by simp, c1.trans (b9.mono c1.size)⟩
  · have hEn : (E != 0) = true := by simp [hE]
    obtain rfl := hno hE
    clear hok hno
    go_wp2_with fail
    with_reducible refine (awake_ok _).mono ?_
    rintro e w9 ⟨rfl, b9⟩
    go_wp2_with fail
    go_ret
    exact ⟨by simp, hb1.trans (b9.mono hb1.size)⟩

open Go.ChangeShapes Go.WideShapes Go.ChangeAt in
theorem walk_AmountWhole {H : Type} (enc : TypeId × Value → H) (base : Nat) (W : World) (a : Int) (wa : (Lit.int .i64 a).wf = true)
    (v' : Value) (d' : DataW H) (p' : List MemPlace) (h' : DataW.Trod enc Try.prog W 0 (fun _ => true) true 27 v' d' p') (ok' : Value.okWide Try.prog W .any base 27 v') :
    Calls Try.prog 5 #[.int .i64 a, v'] W fun e w' => e = .returned (.bool true) ∧ Below W.heap.size W w' := by
  obtain ⟨c, cap, xs, rfl, hr, hx⟩ := ints_arg h' ok'
  exact whole_ok a (wf_int wa).1 (wf_int wa).2 c cap xs hr W hx

end Go.Proofs.Ytncodoaphfeefaa
