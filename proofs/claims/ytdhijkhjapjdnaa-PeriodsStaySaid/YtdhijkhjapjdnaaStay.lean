/- The statement PeriodsStay: its walk. -/
import Derived.Test.YtdhijkhjapjdnaaPart
import Derived.Test.YtdhijkhjapjdnaaBase
import Derived.LoopTactic
import Derived.Deep.LoopGhost
import Derived.Deep.RegionHeld3
namespace Go.Proofs.Ytdhijkhjapjdnaa
open Go.ChangeShapes Go.WideShapes Go.ChangeAt Go.RowKit
set_option linter.unusedVariables false
set_option linter.unusedSimpArgs false

theorem stay_pre (size day : Int) (a : Option Addr) (len cap : Nat) (h : size < 20 ∨ 400 < size) (w : World) :
    Calls Try.prog 6 #[.int .i64 size, .slice a len cap, .int .i64 day] w fun e w' => e = .returned (.bool true) ∧ Below w.heap.size w w' := by
  set_option maxRecDepth 100000 in
  by_cases h0 : size < 1
  · go_enter Try.func6, Try.ntmps6
    go_wp2_with (first
      | (go_at_call 9; refine (new_bad _ _ (Or.inl h0)).mono ?_; rintro e w1 ⟨rfl, rfl⟩)
      | (go_at_call 10; refine (awake_ok _).mono ?_; rintro e w2 ⟨rfl, hb2⟩))
    go_ret
    exact ⟨rfl, (hb2)⟩
  · by_cases h1 : 400 < size
    · have h2 : ¬ size < 20 := by omega
      go_enter Try.func6, Try.ntmps6
      go_wp2_with (first
        | (go_at_call 9; refine (new_bad _ _ (Or.inr h1)).mono ?_; rintro e w1 ⟨rfl, rfl⟩)
        | (go_at_call 10; refine (awake_ok _).mono ?_; rintro e w2 ⟨rfl, hb2⟩))
      go_ret
      exact ⟨rfl, (hb2)⟩
    · have h3 : size < 20 := by omega
      go_enter Try.func6, Try.ntmps6
      go_wp2_with fail
      refine (new_ok _ _ (by omega) (by omega)).mono ?_
      rintro e w1 ⟨b, s, rfl, hP1, hb1, g1, g2⟩
      have z1 := hb1.size
      go_wp2_with (go_at_call 10; refine (awake_ok _).mono ?_; rintro e w2 ⟨rfl, hb2⟩)
      go_ret
      exact ⟨rfl, ((hb1.trans (hb2.mono (by omega))))⟩

set_option maxRecDepth 100000 in
theorem stay_len (size day : Int) (a : Option Addr) (len cap : Nat) (h1 : 20 ≤ size) (h2 : size ≤ 400) (h : 30 < len) (w : World) :
    Calls Try.prog 6 #[.int .i64 size, .slice a len cap, .int .i64 day] w fun e w' => e = .returned (.bool true) ∧ Below w.heap.size w w' := by
  go_enter Try.func6, Try.ntmps6
  go_wp2_with fail
  refine (new_ok _ _ (by omega) (by omega)).mono ?_
  rintro e w1 ⟨b, s, rfl, hP1, hb1, g1, g2⟩
  have z1 := hb1.size
  go_wp2_with (go_at_call 10; refine (awake_ok _).mono ?_; rintro e w9 ⟨rfl, hb9⟩)
  go_ret
  exact ⟨rfl, hb1.trans (hb9.mono hb1.size)⟩

/-- The law's list of locks: each element's two numbers, where they lie. -/
def LocksAt (w : World) (b o : Nat) (len : Nat) (ps cs : Nat → Int) : Prop :=
  ∀ i, i < len → w.cell? ⟨b, o + i * 2, none⟩ = some (.int .i64 (ps i)) ∧ w.cell? ⟨b, o + i * 2 + 1, none⟩ = some (.int .i64 (cs i))
theorem LocksAt.below {w w' : World} {b o len B : Nat} {ps cs : Nat → Int} (h : LocksAt w b o len ps cs) (hb : Below B w w') (hB : b < B) : LocksAt w' b o len ps cs :=
  fun i hi => ⟨(hb.cell (p := ⟨b, o + i * 2, none⟩) hB).trans (h i hi).1, (hb.cell (p := ⟨b, o + i * 2 + 1, none⟩) hB).trans (h i hi).2⟩

theorem last_big (size : Int) (h1 : 20 ≤ size) (h2 : size ≤ 400) : 182 ≤ lastP size := Int.le_ediv_of_mul_le (by omega) (by omega)

theorem bookP_ge (size locked day : Int) : locked ≤ bookP size locked day ∧ day / size ≤ bookP size locked day ∧ (bookP size locked day = locked ∨ bookP size locked day = day / size) := by
  unfold bookP; split <;> omega

theorem lock_yes (b s : Nat) (size locked clock : Int) (w : World) (hP : Per w b s size locked) (h1 : 1 ≤ size) (h2 : size ≤ 400) (h3 : 0 ≤ locked) (h4 : locked ≤ 100000) (h5 : locked ≤ lastP size) (h6 : toP size locked < clock) :
    Calls Try.prog 14 #[.pointer (some ⟨b, 0, none⟩), .int .i64 locked, .int .i64 clock] w fun e w' => e = .returned (.int .i64 0) ∧ Per w' b s size (locked + 1) ∧ Below b w w' := by
  have e : lockE size locked locked clock = 0 := by rw [lockE, if_neg (by omega), if_neg (by omega), if_neg (by omega), if_neg (by omega)]
  have n : lockN size locked locked clock = locked + 1 := by rw [lockN, e]; rfl
  have := lock_any b s size locked locked clock w hP h1 h2 h3 h4
  rwa [e, n] at this

theorem lock_no (b s : Nat) (size locked period clock : Int) (w : World) (hP : Per w b s size locked) (h1 : 1 ≤ size) (h2 : size ≤ 400) (h3 : 0 ≤ locked) (h4 : locked ≤ 100000) (h6 : ¬ (period = locked ∧ toP size locked < clock)) :
    Calls Try.prog 14 #[.pointer (some ⟨b, 0, none⟩), .int .i64 period, .int .i64 clock] w fun e w' => e = .returned (.int .i64 (lockE size locked period clock)) ∧ (lockE size locked period clock == 0) = false ∧ Per w' b s size locked ∧ Below b w w' := by
  have e : lockE size locked period clock ≠ 0 := by
    unfold lockE
    repeat' split
    all_goals first | omega | skip
    obtain rfl : period = locked := by omega
    omega
  have n : lockN size locked period clock = locked := by rw [lockN, if_neg e]
  have := lock_any b s size locked period clock w hP h1 h2 h3 h4
  rw [n] at this
  exact this.mono fun e' w' ⟨g1, g2, g3⟩ => ⟨g1, by rw [beq_eq_false_iff_ne]; exact e, g2, g3⟩

set_option maxRecDepth 100000 in
set_option maxHeartbeats 4000000 in
theorem stay_ok (size day : Int) (a : Option Addr) (len cap : Nat) (ps cs : Nat → Int) (h1 : 20 ≤ size) (h2 : size ≤ 400) (h : len ≤ 30) (w : World) (ha : 0 < len → ∃ xb xo, a = some ⟨xb, xo, none⟩ ∧ LocksAt w xb xo len ps cs) :
    Calls Try.prog 6 #[.int .i64 size, .slice a len cap, .int .i64 day] w fun e w' => e = .returned (.bool true) ∧ Below w.heap.size w w' := by
  have h1' : 1 ≤ size := by omega
  have hl := last_big size h1 h2
  go_enter Try.func6, Try.ntmps6
  go_wp2_with fail
  refine (new_ok _ _ (by omega) (by omega)).mono ?_
  rintro e w1 ⟨b, s, rfl, hP1, hb1, g1, g2⟩
  have z1 := hb1.size
  go_wp2_with fail
  go_loopw [9, 10] (fun most i wr => ∃ k L : Nat, k ≤ len ∧ L ≤ k ∧ i = .int .i64 k ∧ most = .int .i64 L ∧ Per wr b s size L ∧ Below w.heap.size w wr) (fun _ i _ => len - (intOf i).toNat)
  case atStart => exact ⟨0, 0, Nat.zero_le _, Nat.le_refl _, rfl, rfl, hP1, hb1⟩
  case round =>
    obtain ⟨k, L, hk, hLk, rfl, rfl, hPk, hbk⟩ := hrel
    clear hP1 hb1
    have zk := hPk.lt
    by_cases hlt : k < len
    · obtain ⟨xb, xo, rfl, hA⟩ := ha (by omega)
      have hxb : xb < w.heap.size := World.block_lt_of_cell? w _ (hA k hlt).1
      have hz : w.heap.size ≤ wr.heap.size := hbk.size
      have hAk := hA.below hbk hxb
      clear ha
      have i0 : (0 : Int) ≤ (k : Int) := by omega
      have i1 : (k : Int) < (len : Int) := by omega
      by_cases hg : ps k = L ∧ toP size L < cs k
      · obtain ⟨hg1, hg2⟩ := hg
        have dL : decide ((L : Int) < (L : Int) + 1) = true := by simp; omega
        have cA := (hAk k hlt).1
        rw [hg1] at cA
        clear hg1
        have cB := (hAk k hlt).2
        go_wp2_with fail
        refine (earliest_ok b s size L _ hPk h1' (by omega)).mono ?_
        rintro e w2 ⟨rfl, hb2⟩
        have hP2 := hPk.after hb2
        have z2 := hb2.size
        have cA2 := (hb2.cell (p := ⟨xb, xo + k * 2, none⟩) (by simp; omega)).trans cA
        have cB2 := (hb2.cell (p := ⟨xb, xo + k * 2 + 1, none⟩) (by simp; omega)).trans cB
        clear cA cB
        go_wp2_with fail
        go_region_held3 (fun w' => w'.cell? ⟨xb, xo + k * 2, none⟩ = some (.int .i64 L) ∧ w'.cell? ⟨xb, xo + k * 2 + 1, none⟩ = some (.int .i64 (cs k))) (first | exact ⟨cA2, cB2⟩ | exact ⟨cA3, cB3⟩) (first | (go_at_call 14; refine (lock_yes b s size L _ _ hP2.drew h1' h2 (by omega) (by omega) (by omega) hg2).mono ?_; rintro e w3 ⟨rfl, hP3, hb3⟩; have cA3 := (hb3.cell (p := ⟨xb, xo + k * 2, none⟩) (by simp; omega)).trans cA2; have cB3 := (hb3.cell (p := ⟨xb, xo + k * 2 + 1, none⟩) (by simp; omega)).trans cB2))
        have z3 := hb3.size
        simp at z3
        clear cA2 cB2
        go_wp2_with fail
        refine (earliest_ok b s size (L + 1) _ hP3 h1' (by omega)).mono ?_
        rintro e w4 ⟨rfl, hb4⟩
        have hP4 := hP3.after hb4
        have z4 := hb4.size
        have cA4 := (hb4.cell (p := ⟨xb, xo + k * 2, none⟩) (by simp; omega)).trans cA3
        have cB4 := (hb4.cell (p := ⟨xb, xo + k * 2 + 1, none⟩) (by simp; omega)).trans cB3
        clear cA3 cB3
        go_wp2_with fail
        refine (span_ok b s size (L + 1) _ _ hP4 h1' h2 (by omega) (by omega)).mono ?_
        rintro e w5' ⟨rfl, hb5'⟩
        have hP5' := hP4.after hb5'
        have z5' := hb5'.size
        have cA5 := (hb5'.cell (p := ⟨xb, xo + k * 2, none⟩) (by simp; omega)).trans cA4
        have cB5 := (hb5'.cell (p := ⟨xb, xo + k * 2 + 1, none⟩) (by simp; omega)).trans cB4
        clear cA4 cB4
        go_wp2_with fail
        refine (locked_ok b s size (L + 1) _ _ hP5' h1' (by omega) (by omega)).mono ?_
        rintro e w5 ⟨rfl, hb5⟩
        have hP5 := hP5'.after hb5
        have z5 := hb5.size
        have hb3' : Below b w2 w3 := ⟨hb3.os, hb3.tape, hb3.output, hb3.size, hb3.block⟩
        have hbE : Below w.heap.size w w5 := hbk.trans ((hb2.mono (by omega)).trans ((hb3'.mono (by omega)).trans ((hb4.mono (by omega)).trans ((hb5'.mono (by omega)).trans (hb5.mono (by omega))))))
        clear cA5 cB5
        go_wp2_with fail
        by_cases hd : 0 ≤ day ∧ day ≤ 73048
        · obtain ⟨hd1, hd2⟩ := hd
          have y := bookP_ge size ((L : Int) + 1) day
          have dr := (div_range size day h1' hd1 hd2)
          have y1 : ((L : Int) + 1) ≤ bookP size ((L : Int) + 1) day := y.1
          have y2 : bookP size ((L : Int) + 1) day ≤ lastP size := by omega
          have y3 : 0 ≤ bookP size ((L : Int) + 1) day := by omega
          have y4 : decide (bookP size ((L : Int) + 1) day < ((L : Int) + 1)) = false := by simp; omega
          clear y dr
          refine (book_ok b s size ((L : Int) + 1) _ _ hP5 h1' hd1 hd2 (by omega)).mono ?_
          rintro e w6 ⟨rfl, hb6⟩
          have hP6 := hP5.after hb6
          have z6 := hb6.size
          go_wp2_with fail
          refine (locked_ok b s size ((L : Int) + 1) _ _ hP6 h1' (by omega) (by omega)).mono ?_
          rintro e w7 ⟨rfl, hb7⟩
          have hP7 := hP6.after hb7
          have hbF := hbE.trans ((hb6.mono (by omega)).trans (hb7.mono (by omega)))
          go_wp2_with fail
          go_roundw
          case rel => exact ⟨k + 1, L + 1, by omega, by omega, by go_num, by go_num, hP7, hbF⟩
          case measure => simp [intOf]; omega
        · refine (book_bad b _ _ (by omega)).mono ?_
          rintro e w6 ⟨rfl, hb6⟩
          have hP6 := hP5.after hb6
          have hbF := hbE.trans (hb6.mono (by omega))
          go_wp2_with fail
          go_roundw
          case rel => exact ⟨k + 1, L + 1, by omega, by omega, by go_num, by go_num, hP6, hbF⟩
          case measure => simp [intOf]; omega
      · have cA := (hAk k hlt).1
        have cB := (hAk k hlt).2
        go_wp2_with fail
        refine (earliest_ok b s size L _ hPk h1' (by omega)).mono ?_
        rintro e w2 ⟨rfl, hb2⟩
        have hP2 := hPk.after hb2
        have z2 := hb2.size
        have cA2 := (hb2.cell (p := ⟨xb, xo + k * 2, none⟩) (by simp; omega)).trans cA
        have cB2 := (hb2.cell (p := ⟨xb, xo + k * 2 + 1, none⟩) (by simp; omega)).trans cB
        clear cA cB
        go_wp2_with fail
        go_region_held3 (fun w' => w'.cell? ⟨xb, xo + k * 2, none⟩ = some (.int .i64 (ps k)) ∧ w'.cell? ⟨xb, xo + k * 2 + 1, none⟩ = some (.int .i64 (cs k))) (first | exact ⟨cA2, cB2⟩ | exact ⟨cA3, cB3⟩) (first | (go_at_call 14; refine (lock_no b s size L _ _ _ hP2.drew h1' h2 (by omega) (by omega) hg).mono ?_; rintro e w3 ⟨rfl, hE, hP3, hb3⟩; have cA3 := (hb3.cell (p := ⟨xb, xo + k * 2, none⟩) (by simp; omega)).trans cA2; have cB3 := (hb3.cell (p := ⟨xb, xo + k * 2 + 1, none⟩) (by simp; omega)).trans cB2))
        have z3 := hb3.size
        simp at z3
        clear cA2 cB2 cA3 cB3 hg
        go_wp2_with fail
        refine (earliest_ok b s size L _ hP3 h1' (by omega)).mono ?_
        rintro e w5 ⟨rfl, hb5⟩
        have hP5 := hP3.after hb5
        have z5 := hb5.size
        have hb3' : Below b w2 w3 := ⟨hb3.os, hb3.tape, hb3.output, hb3.size, hb3.block⟩
        have hbE : Below w.heap.size w w5 := hbk.trans ((hb2.mono (by omega)).trans ((hb3'.mono (by omega)).trans (hb5.mono (by omega))))
        go_wp2_with fail
        by_cases hd : 0 ≤ day ∧ day ≤ 73048
        · obtain ⟨hd1, hd2⟩ := hd
          have y := bookP_ge size (L : Int) day
          have dr := (div_range size day h1' hd1 hd2)
          have y1 : (L : Int) ≤ bookP size (L : Int) day := y.1
          have y2 : bookP size (L : Int) day ≤ lastP size := by omega
          have y3 : 0 ≤ bookP size (L : Int) day := by omega
          have y4 : decide (bookP size (L : Int) day < (L : Int)) = false := by simp; omega
          clear y dr
          refine (book_ok b s size (L : Int) _ _ hP5 h1' hd1 hd2 (by omega)).mono ?_
          rintro e w6 ⟨rfl, hb6⟩
          have hP6 := hP5.after hb6
          have z6 := hb6.size
          go_wp2_with fail
          refine (locked_ok b s size (L : Int) _ _ hP6 h1' (by omega) (by omega)).mono ?_
          rintro e w7 ⟨rfl, hb7⟩
          have hP7 := hP6.after hb7
          have hbF := hbE.trans ((hb6.mono (by omega)).trans (hb7.mono (by omega)))
          go_wp2_with fail
          go_roundw
          case rel => exact ⟨k + 1, L, by omega, by omega, by go_num, by go_num, hP7, hbF⟩
          case measure => simp [intOf]; omega
        · refine (book_bad b _ _ (by omega)).mono ?_
          rintro e w6 ⟨rfl, hb6⟩
          have hP6 := hP5.after hb6
          have hbF := hbE.trans (hb6.mono (by omega))
          go_wp2_with fail
          go_roundw
          case rel => exact ⟨k + 1, L, by omega, by omega, by go_num, by go_num, hP6, hbF⟩
          case measure => simp [intOf]; omega
    · obtain rfl : k = len := by omega
      clear ha
      go_wp2_with fail
      obtain ⟨wo, rfl⟩ : ∃ wo : World, wo = wr := ⟨_, rfl⟩
      go_loopw [21] (fun i wr => ∃ j : Nat, j ≤ L ∧ i = .int .i64 j ∧ Per wr b s size L ∧ Below w.heap.size w wr) (fun i _ => L - (intOf i).toNat)
      case atStart => exact ⟨0, Nat.zero_le _, rfl, hPk, hbk⟩
      case round =>
        obtain ⟨j, hj, rfl, hPj, hbj⟩ := hrel
        clear hPk hbk
        have zj := hbj.size
        by_cases hjl : j < L
        · have dj : decide ((j : Int) < (L : Int)) = true := by simp; omega
          go_wp2_with fail
          refine (locked_ok b s size L _ _ hPj h1' (by omega) (by omega)).mono ?_
          rintro e w7 ⟨rfl, hb7⟩
          have hP7 := hPj.after hb7
          have hbF := hbj.trans (hb7.mono (by omega))
          go_wp2_with fail
          go_roundw
          case rel => exact ⟨j + 1, by omega, by go_num, hP7, hbF⟩
          case measure => simp [intOf]; omega
        · obtain rfl : j = L := by omega
          have dj : decide ((j : Int) < (j : Int)) = false := by simp
          go_wp2_with fail
          refine (locked_ok b s size j _ _ hPj h1' (by omega) (by omega)).mono ?_
          rintro e w7 ⟨rfl, hb7⟩
          have hbF := hbj.trans (hb7.mono (by omega))
          go_wp2_with (go_at_call 10; refine (awake_ok _).mono ?_; rintro e w9 ⟨rfl, hb9⟩)
          go_ret
          exact ⟨rfl, hbF.trans (hb9.mono hbF.size)⟩

theorem walk_PeriodsStay {H : Type} (enc : TypeId × Value → H) (base : Nat) (W : World) (size : Int) (_ : (Lit.int .i64 size).wf = true)
    (v : Value) (d : DataW H) (p : List MemPlace) (h : DataW.Trod enc Try.prog W 0 (fun _ => true) true 37 v d p) (ok : Value.okWide Try.prog W .any base 37 v) (day : Int) (_ : (Lit.int .i64 day).wf = true) :
    Calls Try.prog 6 #[.int .i64 size, v, .int .i64 day] W fun e w' => e = .returned (.bool true) ∧ Below W.heap.size W w' := by
  obtain ⟨a, len, cap, rfl⟩ := okWide_slice Try.underlying37 ok
  have hl := arg_leaves (d := 3) (ls := [37]) (by kernel_rfl) h
  obtain ⟨c0, cs0, e0, h0, _⟩ := hl.cons
  simp only [Value.cells, List.cons.injEq] at e0
  obtain ⟨rfl, _⟩ := e0
  have hf : flat Try.prog 3 40 = some [3, 3] := by kernel_rfl
  by_cases hs : size < 20 ∨ 400 < size
  · exact stay_pre size day a len cap hs W
  · by_cases hn : 30 < len
    · exact stay_len size day a len cap (by omega) (by omega) hn W
    · have key : ∃ ps cs : Nat → Int, 0 < len → ∃ xb xo, a = some ⟨xb, xo, none⟩ ∧ LocksAt W xb xo len ps cs := by
        rcases h0.slice Try.underlying37 hf with e1 | ⟨x, len', cap', e1, _, _, hE⟩
        · cases e1
          exact ⟨fun _ => 0, fun _ => 0, fun h => absurd h (by omega)⟩
        · cases e1
          by_cases h0' : 0 < len
          · obtain ⟨xb, xo, rfl⟩ := elems_plain hE (by simp) h0'
            have each : ∀ i, ∃ pc : Int × Int, i < len → W.cell? ⟨xb, xo + i * 2, none⟩ = some (.int .i64 pc.1) ∧ W.cell? ⟨xb, xo + i * 2 + 1, none⟩ = some (.int .i64 pc.2) := by
              intro i
              by_cases hi : i < len
              · obtain ⟨cs, k1, k2⟩ := hE i hi
                obtain ⟨q0, cs', rfl, g0, k1⟩ := k1.cons
                obtain ⟨q1, cs'', rfl, g1, k1⟩ := k1.cons
                obtain ⟨n0, rfl, _⟩ := g0.int Try.underlying3
                obtain ⟨n1, rfl, _⟩ := g1.int Try.underlying3
                have f0 := k2 0 (by simp)
                have f1 := k2 1 (by simp)
                rw [add_plain] at f0 f1
                exact ⟨(n0, n1), fun _ => ⟨f0, f1⟩⟩
              · exact ⟨(0, 0), fun h => absurd h hi⟩
            obtain ⟨f, hf⟩ := Classical.axiomOfChoice each
            exact ⟨fun i => (f i).1, fun i => (f i).2, fun _ => ⟨xb, xo, rfl, hf⟩⟩
          · exact ⟨fun _ => 0, fun _ => 0, fun h => absurd h h0'⟩
      obtain ⟨ps, cs, hk⟩ := key
      exact stay_ok size day a len cap ps cs (by omega) (by omega) (by omega) W hk

end Go.Proofs.Ytdhijkhjapjdnaa
