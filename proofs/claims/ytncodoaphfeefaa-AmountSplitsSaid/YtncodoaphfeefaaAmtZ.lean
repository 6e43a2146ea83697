/- chattellaw01.AmountSplits: the walk. -/
import Derived.Test.YtncodoaphfeefaaAmtW
import Derived.Test.YtncodoaphfeefaaAmtK
import Derived.Test.YtncodoaphfeefaaAmtI
namespace Go.Proofs.Ytncodoaphfeefaa
open Go.RowKit Go.Shelf Go.Lib Go.Sort
set_option linter.unusedVariables false
set_option linter.unusedSimpArgs false

theorem split_err (total : Int) (t1 : -9223372036854775808 ≤ total) (t2 : total ≤ 9223372036854775807) (a : Option Addr) (cap : Nat) (ws : List Int) (hl : ws.length ≤ 1000000) (hr : ∀ x ∈ ws, -9223372036854775808 ≤ x ∧ x ≤ 9223372036854775807) (w : World) (hx : RowAt w a ws.length (numV ws)) (E : Int) (hE : splitE total ws = E) (h0 : E ≠ 0) :
    Calls Try.prog 15 #[.int .i64 total, .slice a ws.length cap] w fun e w' => e = .returned (.tuple #[.slice none 0 0, .int .i64 E]) ∧ Below w.heap.size w w' := by
  refine (split_ok total t1 t2 a cap ws hl hr (fun h => stable_all _ h) w hx).mono ?_
  rintro e w' ⟨v, rfl, hb, h1, _⟩
  rw [hE] at h1 ⊢
  obtain rfl := h1 h0
  exact ⟨rfl, hb⟩
set_option maxHeartbeats 8000000 in
set_option maxRecDepth 100000 in
theorem splits_few (total : Int) (t1 : -9223372036854775808 ≤ total) (t2 : total ≤ 9223372036854775807) (a : Option Addr) (cap : Nat) (ws : List Int) (hr : ∀ x ∈ ws, -9223372036854775808 ≤ x ∧ x ≤ 9223372036854775807) (w : World) (hx : RowAt w a ws.length (numV ws)) (hn : ws.length < 1 ∨ 64 < ws.length) :
    Calls Try.prog 4 #[.int .i64 total, .slice a ws.length cap] w fun e w' => e = .returned (.bool true) ∧ Below w.heap.size w w' := by
  by_cases hl : 70 < ws.length
  · have hl' : 70 < (ws.length : Int) := by omega
    have d0 := Below.refl w.heap.size w
    clear hx hr hl t1 t2 hn
    go_enter Try.func4, Try.ntmps4
    go_wp2_with fail
    with_reducible refine (awake_ok _).mono ?_
    rintro e w9 ⟨rfl, b9⟩
    go_wp2_with fail
    go_ret
    exact ⟨by simp, d0.trans (b9.mono d0.size)⟩
  have hl70 : decide (70 < (ws.length : Int)) = false := decide_eq_false (by omega)
  have HSp := Lib.hid (split_err total t1 t2 a cap ws (by omega) hr w hx 1 (by unfold splitE; rw [if_pos hn]) (by omega))
  obtain ⟨n, hnn⟩ : ∃ n, ws.length = n := ⟨_, rfl⟩
  rw [hnn] at hx hl70 hn hl HSp ⊢
  clear hnn
  rcases hn with h | h
  · obtain rfl : n = 0 := by omega
    clear h hl hl70
    clear hx hr t1 t2
    go_enter Try.func4, Try.ntmps4
    go_wp2_with fail
    with_reducible refine HSp.out.mono ?_
    rintro e w1 ⟨rfl, d0⟩
    go_wp2_with fail
    with_reducible refine (awake_ok _).mono ?_
    rintro e w9 ⟨rfl, b9⟩
    go_wp2_with fail
    go_ret
    exact ⟨by simp, d0.trans (b9.mono d0.size)⟩
  · have g1 : decide ((n : Int) < 1) = false := decide_eq_false (by omega)
    have g2 : decide (64 < (n : Int)) = true := decide_eq_true (by omega)
    clear h hl
    clear hx hr t1 t2
    go_enter Try.func4, Try.ntmps4
    go_wp2_with fail
    with_reducible refine HSp.out.mono ?_
    rintro e w1 ⟨rfl, d0⟩
    go_wp2_with fail
    with_reducible refine (awake_ok _).mono ?_
    rintro e w9 ⟨rfl, b9⟩
    go_wp2_with fail
    go_ret
    exact ⟨by simp, d0.trans (b9.mono d0.size)⟩

/-- The walk's start, where there are one to 64 weights. -/
structure SpS (n : Nat) (ws : List Int) (a : Option Addr) (w : World) : Prop where
  len : ws.length = n
  n1 : 1 ≤ n
  n64 : n ≤ 64
  row : RowAt w a n (numV ws)
  rng : ∀ x ∈ ws, -9223372036854775808 ≤ x ∧ x ≤ 9223372036854775807
theorem SpS.mem {n : Nat} {ws : List Int} {a : Option Addr} {w : World} (h : SpS n ws a w) {i : Nat} (hi : i < n) : ws.getD i 0 ∈ ws := by
  have := h.len
  simp [List.getD_eq_getElem?_getD, show i < ws.length by omega]
set_option maxHeartbeats 8000000 in
set_option maxRecDepth 100000 in
theorem splits_neg (total : Int) (n : Nat) (a : Option Addr) (cap : Nat) (ws : List Int) (w : World) (hS : SpS n ws a w) (HSp : Hid (Calls Try.prog 15 #[.int .i64 total, .slice a n cap] w fun e w' => e = .returned (.tuple #[.slice none 0 0, .int .i64 10]) ∧ Below w.heap.size w w')) (hneg : ∃ x ∈ ws, x < 0) :
    Calls Try.prog 4 #[.int .i64 total, .slice a n cap] w fun e w' => e = .returned (.bool true) ∧ Below w.heap.size w w' := by
  have HNeg := Lib.hid hneg
  clear hneg
  have hl70 : decide (70 < (n : Int)) = false := decide_eq_false (by have := hS.n64; omega)
  have g1 : decide ((n : Int) < 1) = false := decide_eq_false (by have := hS.n1; omega)
  have g2 : decide (64 < (n : Int)) = false := decide_eq_false (by have := hS.n64; omega)
  have HS := Lib.hid hS
  clear hS
  go_enter Try.func4, Try.ntmps4
  go_wp2_with fail
  with_reducible refine HSp.out.mono ?_
  rintro e w1 ⟨rfl, d0⟩
  have HX1 := Lib.hid (HS.out.row.after d0)
  have hb0 := Below.refl w1.heap.size w1
  go_wp2_with fail
  clear hl70 g1 g2
  go_loopw [7] (fun v wr => ∃ i : Nat, v = .int .i64 (i : Int) ∧ i ≤ n ∧ Hid (∀ j, j < i → 0 ≤ ws.getD j 0) ∧ Below w1.heap.size w1 wr) (fun v _ => n - (intOf v).toNat)
  case atStart => exact ⟨0, rfl, by omega, (fun j hj => by omega), hb0⟩
  case round =>
    clear hb0
    obtain ⟨i, rfl, hin, HP, hbr⟩ := hrel
    have hlt : i < n := by
      rcases Nat.lt_or_ge i n with h | h
      · exact h
      · obtain ⟨x, hx, hx0⟩ := HNeg.out
        obtain ⟨j, hj, rfl⟩ := List.mem_iff_getElem.1 hx
        have := HP.out j (by have := HS.out.len; omega)
        rw [List.getD_eq_getElem?_getD, List.getElem?_eq_getElem hj] at this
        simp only [Option.getD_some] at this
        omega
    have hlt' : (i : Int) < (n : Int) := by omega
    obtain ⟨b, o, rfl, hc⟩ := (HX1.out.after hbr) (by omega)
    have c0 : wr.cell? ⟨b, o + i, none⟩ = some (.int .i64 (ws.getD i 0)) := hc i hlt
    have hwk : IntKind.i64.wrap ((i : Int) + 1) = (i : Int) + 1 := IntWalk.i64_in _ (by have := HS.out.n64; omega)
    have d2 := d0.trans (hbr.mono d0.size)
    obtain ⟨x, hx⟩ : ∃ x, ws.getD i 0 = x := ⟨_, rfl⟩
    rw [hx] at c0
    have HXx := Lib.hid hx
    have HLT := Lib.hid hlt
    clear hc hx hlt d0
    by_cases hx0 : x < 0
    · have g3 : decide (x < 0) = true := decide_eq_true hx0
      clear hx0
      have d0 := d2
      go_wp2_with fail
      with_reducible refine (awake_ok _).mono ?_
      rintro e w9 ⟨rfl, b9⟩
      go_wp2_with fail
      go_ret
      exact ⟨by simp, d0.trans (b9.mono d0.size)⟩
    · have g3 : decide (x < 0) = false := decide_eq_false hx0
      have HX0 := Lib.hid hx0
      clear hx0
      go_wp2_with fail
      go_roundw
      case rel => exact ⟨i + 1, by go_num, by have := HLT.out; omega, (fun j hj => by
        rcases Nat.lt_or_ge j i with h | h
        · exact HP.out j h
        · obtain rfl : j = i := by omega
          rw [HXx.out]
          have := HX0.out
          omega), hbr⟩
      case measure => have := HLT.out; simp [intOf]; omega
set_option maxHeartbeats 8000000 in
set_option maxRecDepth 100000 in
theorem splits_over (total : Int) (n : Nat) (a : Option Addr) (cap : Nat) (ws : List Int) (w : World) (hS : SpS n ws a w) (HSp : Hid (Calls Try.prog 15 #[.int .i64 total, .slice a n cap] w fun e w' => e = .returned (.tuple #[.slice none 0 0, .int .i64 11]) ∧ Below w.heap.size w w')) (hpos : ∀ x ∈ ws, 0 ≤ x) (ho : fitsI ws.sum = false ∨ total < -9223372036854775807) :
    Calls Try.prog 4 #[.int .i64 total, .slice a n cap] w fun e w' => e = .returned (.bool true) ∧ Below w.heap.size w w' := by
  have HPos := Lib.hid hpos
  have HO := Lib.hid ho
  clear hpos ho
  have hl70 : decide (70 < (n : Int)) = false := decide_eq_false (by have := hS.n64; omega)
  have g1 : decide ((n : Int) < 1) = false := decide_eq_false (by have := hS.n1; omega)
  have g2 : decide (64 < (n : Int)) = false := decide_eq_false (by have := hS.n64; omega)
  have HS := Lib.hid hS
  clear hS
  go_enter Try.func4, Try.ntmps4
  go_wp2_with fail
  with_reducible refine HSp.out.mono ?_
  rintro e w1 ⟨rfl, d0⟩
  have HX1 := Lib.hid (HS.out.row.after d0)
  have hb0 := Below.refl w1.heap.size w1
  go_wp2_with fail
  clear hl70 g1 g2
  go_loopw [7] (fun v wr => ∃ i : Nat, v = .int .i64 (i : Int) ∧ i ≤ n ∧ Below w1.heap.size w1 wr) (fun v _ => n - (intOf v).toNat)
  case atStart => exact ⟨0, rfl, by omega, hb0⟩
  case round =>
    clear hb0
    obtain ⟨i, rfl, hin, hbr⟩ := hrel
    by_cases hlt : i < n
    · have hlt' : (i : Int) < (n : Int) := by omega
      obtain ⟨b, o, rfl, hc⟩ := (HX1.out.after hbr) (by omega)
      have c0 : wr.cell? ⟨b, o + i, none⟩ = some (.int .i64 (ws.getD i 0)) := hc i hlt
      have hwk : IntKind.i64.wrap ((i : Int) + 1) = (i : Int) + 1 := IntWalk.i64_in _ (by have := HS.out.n64; omega)
      have g3 : decide (ws.getD i 0 < 0) = false := decide_eq_false (by have := HPos.out _ (HS.out.mem hlt); omega)
      obtain ⟨x, hx⟩ : ∃ x, ws.getD i 0 = x := ⟨_, rfl⟩
      rw [hx] at c0 g3
      have HLT := Lib.hid hlt
      clear hc hx hlt
      go_wp2_with fail
      go_roundw
      case rel => exact ⟨i + 1, by go_num, by have := HLT.out; omega, hbr⟩
      case measure => have := HLT.out; simp [intOf]; omega
    · obtain rfl : n = i := by omega
      have HSum := Lib.hid (by have := sum_big a cap ws wr (by rw [HS.out.len]; exact HX1.out.after hbr) HS.out.rng (by have := HS.out.len; have := HS.out.n64; omega); rwa [HS.out.len] at this : Calls Try.prog 17 #[.slice a n cap] wr (BigEnd ws.sum wr))
      have d2 := d0.trans (hbr.mono d0.size)
      obtain ⟨Z, hZ⟩ : ∃ Z, ws.sum = Z := ⟨_, rfl⟩
      rw [hZ] at HSum
      have HZ := Lib.hid hZ
      clear hZ hbr d0
      go_wp2_with fail
      with_reducible refine HSum.out.mono ?_
      rintro e w2 ⟨zs, za, zl, zc, rfl, hBZ, hb2, _⟩
      by_cases hf : fitsI Z = true
      · have g4 : decide (total < -9223372036854775807) = true := decide_eq_true (by
          rcases HO.out with h | h
          · rw [HZ.out, hf] at h; cases h
          · exact h)
        have HI := Lib.hid (int_yes Z zs za zl zc w2 hBZ hf)
        have d3 := d2.trans (hb2.mono d2.size)
        clear hf hBZ hb2 d2
        go_wp2_with fail
        with_reducible refine HI.out.mono ?_
        rintro e w3 ⟨rfl, hb3⟩
        have d0 := d3.trans (hb3.mono d3.size)
        clear hb3 d3
        go_wp2_with fail
        with_reducible refine (awake_ok _).mono ?_
        rintro e w9 ⟨rfl, b9⟩
        go_wp2_with fail
        go_ret
        exact ⟨by simp, d0.trans (b9.mono d0.size)⟩
      · have HI := Lib.hid (int_no Z zs za zl zc w2 hBZ (by simpa using hf))
        have d3 := d2.trans (hb2.mono d2.size)
        clear hf hBZ hb2 d2
        go_wp2_with fail
        with_reducible refine HI.out.mono ?_
        rintro e w3 ⟨rfl, hb3⟩
        have d0 := d3.trans (hb3.mono d3.size)
        clear hb3 d3
        go_wp2_with fail
        with_reducible refine (awake_ok _).mono ?_
        rintro e w9 ⟨rfl, b9⟩
        go_wp2_with fail
        go_ret
        exact ⟨by simp, d0.trans (b9.mono d0.size)⟩
set_option maxHeartbeats 8000000 in
set_option maxRecDepth 100000 in
theorem splits_zero (total : Int) (n : Nat) (a : Option Addr) (cap : Nat) (ws : List Int) (w : World) (hS : SpS n ws a w) (HSp : Hid (Calls Try.prog 15 #[.int .i64 total, .slice a n cap] w fun e w' => e = .returned (.tuple #[.slice none 0 0, .int .i64 12]) ∧ Below w.heap.size w w')) (hpos : ∀ x ∈ ws, 0 ≤ x) (ht : ¬ total < -9223372036854775807) (h0 : ws.sum = 0) :
    Calls Try.prog 4 #[.int .i64 total, .slice a n cap] w fun e w' => e = .returned (.bool true) ∧ Below w.heap.size w w' := by
  have HPos := Lib.hid hpos
  have g4 : decide (total < -9223372036854775807) = false := decide_eq_false ht
  have H0 := Lib.hid h0
  clear hpos h0 ht
  have hl70 : decide (70 < (n : Int)) = false := decide_eq_false (by have := hS.n64; omega)
  have g1 : decide ((n : Int) < 1) = false := decide_eq_false (by have := hS.n1; omega)
  have g2 : decide (64 < (n : Int)) = false := decide_eq_false (by have := hS.n64; omega)
  have HS := Lib.hid hS
  clear hS
  go_enter Try.func4, Try.ntmps4
  go_wp2_with fail
  with_reducible refine HSp.out.mono ?_
  rintro e w1 ⟨rfl, d0⟩
  have HX1 := Lib.hid (HS.out.row.after d0)
  have hb0 := Below.refl w1.heap.size w1
  go_wp2_with fail
  clear hl70 g1 g2
  go_loopw [7] (fun v wr => ∃ i : Nat, v = .int .i64 (i : Int) ∧ i ≤ n ∧ Below w1.heap.size w1 wr) (fun v _ => n - (intOf v).toNat)
  case atStart => exact ⟨0, rfl, by omega, hb0⟩
  case round =>
    clear hb0
    obtain ⟨i, rfl, hin, hbr⟩ := hrel
    by_cases hlt : i < n
    · have hlt' : (i : Int) < (n : Int) := by omega
      obtain ⟨b, o, rfl, hc⟩ := (HX1.out.after hbr) (by omega)
      have c0 : wr.cell? ⟨b, o + i, none⟩ = some (.int .i64 (ws.getD i 0)) := hc i hlt
      have hwk : IntKind.i64.wrap ((i : Int) + 1) = (i : Int) + 1 := IntWalk.i64_in _ (by have := HS.out.n64; omega)
      have g3 : decide (ws.getD i 0 < 0) = false := decide_eq_false (by have := HPos.out _ (HS.out.mem hlt); omega)
      obtain ⟨x, hx⟩ : ∃ x, ws.getD i 0 = x := ⟨_, rfl⟩
      rw [hx] at c0 g3
      have HLT := Lib.hid hlt
      clear hc hx hlt
      go_wp2_with fail
      go_roundw
      case rel => exact ⟨i + 1, by go_num, by have := HLT.out; omega, hbr⟩
      case measure => have := HLT.out; simp [intOf]; omega
    · obtain rfl : n = i := by omega
      have HSum := Lib.hid (by have := sum_big a cap ws wr (by rw [HS.out.len]; exact HX1.out.after hbr) HS.out.rng (by have := HS.out.len; have := HS.out.n64; omega); rwa [HS.out.len] at this : Calls Try.prog 17 #[.slice a n cap] wr (BigEnd ws.sum wr))
      have d2 := d0.trans (hbr.mono d0.size)
      obtain ⟨Z, hZ⟩ : ∃ Z, ws.sum = Z := ⟨_, rfl⟩
      rw [hZ] at HSum
      have HZ := Lib.hid hZ
      clear hZ hbr d0
      go_wp2_with fail
      with_reducible refine HSum.out.mono ?_
      rintro e w2 ⟨zs, za, zl, zc, rfl, hBZ, hb2, _⟩
      obtain rfl : Z = 0 := by have := HZ.out; have := H0.out; omega
      have HI := Lib.hid (int_yes 0 zs za zl zc w2 hBZ (by decide))
      have d3 := d2.trans (hb2.mono d2.size)
      clear hBZ hb2 d2
      go_wp2_with fail
      with_reducible refine HI.out.mono ?_
      rintro e w3 ⟨rfl, hb3⟩
      have d0 := d3.trans (hb3.mono d3.size)
      clear hb3 d3
      go_wp2_with fail
      with_reducible refine (awake_ok _).mono ?_
      rintro e w9 ⟨rfl, b9⟩
      go_wp2_with fail
      go_ret
      exact ⟨by simp, d0.trans (b9.mono d0.size)⟩

end Go.Proofs.Ytncodoaphfeefaa
