/- The reference's numbers as bits (package chattelref01): Int. -/
import Derived.Test.YtpinhomalmknjaaDoorRefB
import Derived.Test.YtpinhomalmknjaaDoorEntI
import Derived.BigGuardPart
import Derived.Deep.DeepCutAuto
import Derived.Deep.QuietTactic
import Derived.BigQuiet
import Derived.Test.YtpinhomalmknjaaDoorHeld
namespace Go.Proofs.YtpinhomalmknjaaDoor
open Go.RowKit
set_option linter.unusedVariables false
set_option linter.unusedSimpArgs false


theorem pow63 : (2 : Nat) ^ 63 = 9223372036854775808 := by decide
theorem pow64 : (2 : Nat) ^ 64 = 18446744073709551616 := by decide
theorem pow62 : (2 : Nat) ^ 62 = 4611686018427387904 := by decide

theorem fits_long {z : Int} (h : 64 < blen z.natAbs) : fitsI z = false := by
  have := lt_blen.1 h
  rw [pow64] at this
  unfold fitsI
  rw [decide_eq_false_iff_not]; omega
theorem fits_odd {z : Int} {k : Nat} (h : blen z.natAbs = 64) (hk : k < 63) (hb : bitAt z.natAbs k ≠ 0) : fitsI z = false := by
  have h1 := lt_blen.1 (show 63 < blen z.natAbs by omega)
  rw [pow63] at h1
  unfold fitsI
  rw [decide_eq_false_iff_not]
  intro h2
  have h3 : z.natAbs = 2 ^ 63 := by rw [pow63]; omega
  rw [h3] at hb
  apply hb
  unfold bitAt
  have : (2 : Nat) ^ 63 / 2 ^ k % 2 = 0 := by
    rw [Nat.pow_div (by omega) (by omega), show 63 - k = (63 - k - 1) + 1 from by omega, Nat.pow_succ]
    omega
  rw [this]; rfl
theorem low_zero (N : Nat) : ∀ k, (∀ j, j < k → bitAt N j = 0) → N % 2 ^ k = 0
  | 0, _ => by simp [Nat.mod_one]
  | k + 1, h => by
    have h1 := low_zero N k (fun j hj => h j (by omega))
    have h2 := h k (by omega)
    unfold bitAt at h2
    rw [mod_succ, h1]
    have : N / 2 ^ k % 2 = 0 := by omega
    rw [this]; simp
theorem even_eq {z : Int} (h : blen z.natAbs = 64) (hb : ∀ j, j < 63 → bitAt z.natAbs j = 0) : z.natAbs = 2 ^ 63 := by
  have h1 := lt_blen.1 (show 63 < blen z.natAbs by omega)
  have h2 := blen_le.1 (show blen z.natAbs ≤ 64 by omega)
  have h3 := low_zero _ _ hb
  rw [pow64] at h2
  rw [pow63] at h1 h3 ⊢
  omega
theorem fits_pos {z : Int} (h : blen z.natAbs = 64) (hb : ∀ j, j < 63 → bitAt z.natAbs j = 0) (hz : ¬ z < 0) : fitsI z = false := by
  have := even_eq h hb
  rw [pow63] at this
  unfold fitsI
  rw [decide_eq_false_iff_not]; omega
theorem fits_neg {z : Int} (h : blen z.natAbs = 64) (hb : ∀ j, j < 63 → bitAt z.natAbs j = 0) (hz : z < 0) : fitsI z = true ∧ z.natAbs ≤ 2 ^ 63 := by
  have := even_eq h hb
  refine ⟨?_, by omega⟩
  rw [pow63] at this
  unfold fitsI
  rw [decide_eq_true_iff]; omega
theorem fits_short {z : Int} (h : blen z.natAbs < 64) : fitsI z = true ∧ z.natAbs ≤ 2 ^ 63 ∧ (¬ z < 0 → z.natAbs < 2 ^ 63) := by
  have := blen_le.1 (show blen z.natAbs ≤ 63 by omega)
  refine ⟨?_, by omega, fun _ => this⟩
  rw [pow63] at this
  unfold fitsI
  rw [decide_eq_true_iff]; omega

theorem half_le {N k : Nat} (h : N ≤ 2 ^ 63) : N / 2 ^ (k + 1) ≤ 4611686018427387904 := by
  have h1 : N / 2 ^ (k + 1) ≤ N / 2 := by
    rw [Nat.pow_succ, Nat.mul_comm, ← Nat.div_div_eq_div_mul]
    exact Nat.div_le_self _ _
  rw [pow63] at h
  omega


set_option maxHeartbeats 1000000 in
theorem int_no (z : Int) (s : Bool) (a : Option Addr) (l cap : Nat) (w : World) (h : BigAt w z s a l cap) (hf : fitsI z = false) :
    Calls Tryd.prog 45 #[.agg #[.bool s, .slice a l cap]] w fun e w' => e = .returned (.tuple #[.int .i64 0, .bool false]) ∧ Below w.heap.size w w' := by
  obtain ⟨hs, rfl, hc, hm, hr⟩ := h
  have hr2 := hr.after (w' := w.alloc (.cells #[.bool s, .slice a (blen z.natAbs) cap] 94)) ((Below.refl _ _).alloc (Nat.le_refl _) _)
  clear hr
  by_cases h1 : 64 < blen z.natAbs
  · clear hs hr2
    go_enter Tryd.func45, Tryd.ntmps45
    go_wp2_with fail
    go_ret2
    exact ⟨rfl, (Below.refl _ _).alloc (Nat.le_refl _) _⟩
  · have h2 : blen z.natAbs = 64 := by
      rcases Nat.lt_or_ge (blen z.natAbs) 64 with g | g
      · have := (fits_short g).1; rw [hf] at this; cases this
      · omega
    have H2 := Lib.hid h2
    have HS := Lib.hid hs
    have HF := Lib.hid hf
    have hgt : ((blen z.natAbs : Nat) : Int) ≤ 64 := by omega
    have heq : (((blen z.natAbs : Nat) : Int) == 64) = true := by rw [beq_iff_eq]; omega
    clear h2 hs hf h1
    go_enter Tryd.func45, Tryd.ntmps45
    go_wp2_with fail
    go_loop [4] (fun i => ∃ k : Nat, k ≤ 63 ∧ i = .int .i64 k ∧ ∀ j, j < k → bitAt z.natAbs j = 0) (fun i => 63 - (intOf i).toNat)
    case atStart => exact ⟨0, by omega, rfl, fun j hj => absurd hj (by omega)⟩
    case round =>
      obtain ⟨k, hk, rfl, hz⟩ := hrel
      have HZ := Lib.hid hz
      clear hz
      by_cases hlt : k < 63
      · have hl : 63 < blen z.natAbs := by have := H2.out; omega
        obtain ⟨b, o, rfl, hcell⟩ := hr2 (by omega)
        have c1 := hcell k (by omega)
        unfold bitV at c1
        have i0 : (0 : Int) ≤ (k : Int) := by omega
        have i1 : (k : Int) < ((blen z.natAbs : Nat) : Int) := by omega
        clear hcell
        by_cases hb : bitAt z.natAbs k = 0
        · have HB := Lib.hid hb
          have hbb : (bitAt z.natAbs k != 0) = false := by rw [bne_eq_false_iff_eq]; exact hb
          clear hb
          go_wp2_with fail
          go_round
          case rel => exact ⟨k + 1, by omega, by go_num, fun j hj => by
            rcases Nat.lt_or_ge j k with g | g
            · exact HZ.out j g
            · obtain rfl : j = k := by omega
              exact HB.out⟩
          case measure => simp [intOf]; omega
        · have hbb : (bitAt z.natAbs k != 0) = true := by rw [bne_iff_ne]; exact hb
          clear hb
          go_wp2_with fail
          go_ret2
          exact ⟨rfl, (Below.refl _ _).alloc (Nat.le_refl _) _⟩
      · obtain rfl : k = 63 := by omega
        have hsf : s = false := by
          have e := HS.out
          rw [e, decide_eq_false_iff_not]
          intro hz
          have := (fits_neg H2.out HZ.out hz).1
          rw [HF.out] at this; cases this
        subst hsf
        go_wp2_with fail
        go_ret2
        exact ⟨rfl, (Below.refl _ _).alloc (Nat.le_refl _) _⟩

theorem fits_bits {z : Int} (h : blen z.natAbs = 64) (hf : fitsI z = true) (k : Nat) (hk : k < 63) : bitAt z.natAbs k = 0 := by
  by_cases hb : bitAt z.natAbs k = 0
  · exact hb
  · have := fits_odd h hk hb; rw [hf] at this; cases this

set_option maxHeartbeats 1000000 in
theorem int_yes (z : Int) (s : Bool) (a : Option Addr) (l cap : Nat) (w : World) (h : BigAt w z s a l cap) (hf : fitsI z = true) :
    Calls Tryd.prog 45 #[.agg #[.bool s, .slice a l cap]] w fun e w' => e = .returned (.tuple #[.int .i64 z, .bool true]) ∧ Below w.heap.size w w' := by
  obtain ⟨hs, rfl, hc, hm, hr⟩ := h
  have hr2 := hr.after (w' := w.alloc (.cells #[.bool s, .slice a (blen z.natAbs) cap] 94)) ((Below.refl _ _).alloc (Nat.le_refl _) _)
  clear hr
  have HS := Lib.hid hs
  have h64 : blen z.natAbs ≤ 64 := by
    rcases Nat.lt_or_ge 64 (blen z.natAbs) with g | g
    · have := fits_long g; rw [hf] at this; cases this
    · exact g
  have hz63 : z.natAbs ≤ 2 ^ 63 ∧ (s = false → z.natAbs ≤ 9223372036854775807) := by
    rw [hs, pow63]
    have := hf
    unfold fitsI at this
    rw [decide_eq_true_iff] at this
    exact ⟨by omega, fun e => by rw [decide_eq_false_iff_not] at e; omega⟩
  have HN := Lib.hid hz63.1
  have HNs := Lib.hid hz63.2
  have HF := Lib.hid hf
  have HB : Hid (blen z.natAbs = 64 → ∀ k, k < 63 → bitAt z.natAbs k = 0) := fun e => fits_bits e hf
  obtain ⟨N, hN⟩ : ∃ N, z.natAbs = N := ⟨_, rfl⟩
  rw [hN] at hr2 h64 HN HNs HB ⊢
  have HNz := Lib.hid hN
  clear hs hf hz63 hN
  by_cases h1 : blen N < 64
  · have heq : (((blen N : Nat) : Int) == 64) = false := by rw [beq_eq_false_iff_ne]; omega
    go_enter Tryd.func45, Tryd.ntmps45
    go_wp2_with fail
    have hd0 : (0 : Int) ≤ ((blen N : Nat) : Int) := by omega
    go_loop [5, 6] (fun n i => ∃ k : Nat, k ≤ blen N ∧ i = .int .i64 ((k : Int) - 1) ∧ n = .int .i64 (-((N / 2 ^ k : Nat) : Int))) (fun _ i => (intOf i + 1).toNat)
    case atStart => exact ⟨blen N, Nat.le_refl _, rfl, by rw [Nat.div_eq_of_lt (blen_le.1 (Nat.le_refl _))]; rfl⟩
    case round =>
      obtain ⟨k, hk, rfl, rfl⟩ := hrel
      by_cases h0 : 0 < k
      · obtain ⟨b, o, rfl, hc⟩ := hr2 (by omega)
        have c1 := hc (k - 1) (by omega)
        unfold bitV at c1
        obtain ⟨m, hm⟩ : ∃ m, N / 2 ^ k = m := ⟨_, rfl⟩
        have hml : m ≤ 4611686018427387904 := by
          have := half_le (N := N) (k := k - 1) HN.out
          rw [Nat.sub_add_cancel h0, hm] at this
          exact this
        have HH := Lib.hid (half_pow N (k - 1))
        have hfit : -9223372036854775808 ≤ 2 * -(m : Int) - bitAt N (k - 1) := by
          have h1 := HH.out
          rw [Nat.sub_add_cancel h0, hm] at h1
          have h2 : N / 2 ^ (k - 1) ≤ N := Nat.div_le_self _ _
          have h3 := HN.out
          rw [pow63] at h3
          omega
        rw [hm]
        have HM := Lib.hid hm
        have rx := bitAt_range N (k - 1)
        obtain ⟨rx1, rx2⟩ := rx
        have i0 : (0 : Int) ≤ (k : Int) - 1 := by omega
        have i1 : (k : Int) - 1 < ((blen N : Nat) : Int) := by omega
        have i2 : ((k : Int) - 1).toNat = k - 1 := by omega
        clear hm hc
        go_wp2_with fail
        go_round
        case rel => exact ⟨k - 1, by omega, by congr 1; omega, by have := HH.out; rw [Nat.sub_add_cancel h0, HM.out] at this; rw [this]; congr 1; omega⟩
        case measure => simp [intOf]; omega
      · obtain rfl : k = 0 := by omega
        rw [show N / 2 ^ 0 = N from by simp]
        cases s
        · have HE : Hid ((N : Int) = z) := by have := HS.out; simp at this; exact (show (N : Int) = z by have := HNz.out; omega)
          have hN2 : (N : Int) ≤ 9223372036854775807 := by have := HNs.out rfl; omega
          have hN1 : (0 : Int) ≤ (N : Int) := by omega
          go_wp2_with fail
          go_ret2
          exact ⟨by rw [← HE.out]; rfl, (Below.refl _ _).alloc (Nat.le_refl _) _⟩
        · have HE : Hid (-(N : Int) = z) := by have := HS.out; simp at this; exact (show -(N : Int) = z by have := HNz.out; omega)
          go_wp2_with fail
          go_ret2
          exact ⟨by rw [← HE.out]; rfl, (Below.refl _ _).alloc (Nat.le_refl _) _⟩
  · have h2 : blen N = 64 := by omega
    have H2 := Lib.hid h2
    have heq : (((blen N : Nat) : Int) == 64) = true := by rw [beq_iff_eq]; omega
    have hgt : ((blen N : Nat) : Int) ≤ 64 := by omega
    have hst : Hid (s = true) := by
      cases s
      · exfalso
        have := HNs.out rfl
        have h3 := lt_blen.1 (show 63 < blen N by omega)
        rw [pow63] at h3
        omega
      · exact rfl
    clear h2 h1 h64
    go_enter Tryd.func45, Tryd.ntmps45
    go_wp2_with fail
    go_loop [4] (fun i => ∃ k : Nat, k ≤ 63 ∧ i = .int .i64 k) (fun i => 63 - (intOf i).toNat)
    case atStart => exact ⟨0, by omega, rfl⟩
    case round =>
      obtain ⟨k, hk, rfl⟩ := hrel
      by_cases hlt : k < 63
      · obtain ⟨b, o, rfl, hcell⟩ := hr2 (by have := H2.out; omega)
        have c1 := hcell k (by have := H2.out; omega)
        unfold bitV at c1
        rw [HB.out H2.out k hlt] at c1
        have i0 : (0 : Int) ≤ (k : Int) := by omega
        have i1 : (k : Int) < ((blen N : Nat) : Int) := by have := H2.out; omega
        clear hcell
        go_wp2_with fail
        go_round
        case rel => exact ⟨k + 1, by omega, by go_num⟩
        case measure => simp [intOf]; omega
      · obtain rfl : k = 63 := by omega
        obtain rfl := hst.out
        go_wp2_with fail
        have hd0 : (0 : Int) ≤ ((blen N : Nat) : Int) := by omega
        go_loop [5, 6] (fun n i => ∃ k : Nat, k ≤ blen N ∧ i = .int .i64 ((k : Int) - 1) ∧ n = .int .i64 (-((N / 2 ^ k : Nat) : Int))) (fun _ i => (intOf i + 1).toNat)
        case atStart => exact ⟨blen N, Nat.le_refl _, rfl, by rw [Nat.div_eq_of_lt (blen_le.1 (Nat.le_refl _))]; rfl⟩
        case round =>
          obtain ⟨k, hk, rfl, rfl⟩ := hrel
          by_cases h0 : 0 < k
          · obtain ⟨b, o, rfl, hc⟩ := hr2 (by omega)
            have c1 := hc (k - 1) (by omega)
            unfold bitV at c1
            obtain ⟨m, hm⟩ : ∃ m, N / 2 ^ k = m := ⟨_, rfl⟩
            have hml : m ≤ 4611686018427387904 := by
              have := half_le (N := N) (k := k - 1) HN.out
              rw [Nat.sub_add_cancel h0, hm] at this
              exact this
            have HH := Lib.hid (half_pow N (k - 1))
            have hfit : -9223372036854775808 ≤ 2 * -(m : Int) - bitAt N (k - 1) := by
              have h1 := HH.out
              rw [Nat.sub_add_cancel h0, hm] at h1
              have h2 : N / 2 ^ (k - 1) ≤ N := Nat.div_le_self _ _
              have h3 := HN.out
              rw [pow63] at h3
              omega
            rw [hm]
            have HM := Lib.hid hm
            have rx := bitAt_range N (k - 1)
            obtain ⟨rx1, rx2⟩ := rx
            have i0 : (0 : Int) ≤ (k : Int) - 1 := by omega
            have i1 : (k : Int) - 1 < ((blen N : Nat) : Int) := by omega
            have i2 : ((k : Int) - 1).toNat = k - 1 := by omega
            clear hm hc
            go_wp2_with fail
            go_round
            case rel => exact ⟨k - 1, by omega, by congr 1; omega, by have := HH.out; rw [Nat.sub_add_cancel h0, HM.out] at this; rw [this]; congr 1; omega⟩
            case measure => simp [intOf]; omega
          · obtain rfl : k = 0 := by omega
            rw [show N / 2 ^ 0 = N from by simp]
            have HE : Hid (-(N : Int) = z) := by have := HS.out; simp at this; exact (show -(N : Int) = z by have := HNz.out; omega)
            go_wp2_with fail
            go_ret2
            exact ⟨by rw [← HE.out]; rfl, (Below.refl _ _).alloc (Nat.le_refl _) _⟩

end Go.Proofs.YtpinhomalmknjaaDoor
/- The document's answer for entries: Tagged, Check. -/
namespace Go.Proofs.YtpinhomalmknjaaDoor
open Go.RowKit
set_option linter.unusedVariables false
set_option linter.unusedSimpArgs false

set_option maxHeartbeats 1000000 in
theorem tagged_ok (con day cur : Int) (w : World) : Calls Tryd.prog 78 #[.int .i64 con, .int .i64 day, .int .i64 cur] w fun e w' => e = .returned (.bool (tagOk con day cur)) ∧ w = w' := by
  go_enter Tryd.func78, Tryd.ntmps78
  go_wp2_with fail
  all_goals (go_ret; exact ⟨ret_bool (by rw [Bool.eq_iff_iff]; simp [tagOk, belowB]; omega), rfl⟩)

/-- The first numbers, and the first k lines, are in range. -/
def prefB (s : Six) (ls : List Ln) (k : Nat) : Bool := (tagOk s.con s.day s.cur && decide (0 ≤ s.seq) && decide (0 ≤ s.per) && decide (-1 ≤ s.ref)) && (ls.take k).all lineOk
theorem prefB_zero (s : Six) (ls : List Ln) : prefB s ls 0 = (tagOk s.con s.day s.cur && decide (0 ≤ s.seq) && decide (0 ≤ s.per) && decide (-1 ≤ s.ref)) := by simp [prefB]
theorem prefB_succ (s : Six) (ls : List Ln) (k : Nat) (h : k < ls.length) : prefB s ls (k + 1) = (prefB s ls k && lineOk (Ln.at ls k)) := by
  unfold prefB
  have e1 : ls[k] = Ln.at ls k := by unfold Ln.at; rw [List.getD_eq_getElem?_getD, List.getElem?_eq_getElem h]; rfl
  rw [List.take_succ_eq_append_getElem h, List.all_append, e1, Bool.and_assoc (b := List.all _ _)]
  simp
theorem prefB_len (s : Six) (ls : List Ln) : prefB s ls ls.length = rangesB s ls := by
  unfold prefB rangesB
  rw [List.take_length, ← List.not_all_eq_any_not, Bool.not_not]
  cases tagOk s.con s.day s.cur <;> cases ls.all lineOk <;> simp

theorem lines_bad {s : Six} {ls : List Ln} {k : Nat} (hk : k < ls.length) (h : ¬ (Ln.at ls k).c = s.cur) (g : linesB s ls = true) : False := by
  unfold linesB at g
  rw [Bool.and_eq_true] at g
  have := any_first ls (fun l => l.c != s.cur) k hk (by simpa using h)
  rw [this] at g
  exact absurd g.2 (by decide)
theorem lines_good {s : Six} {ls : List Ln} (h2 : 2 ≤ ls.length) (h8 : ls.length ≤ 8) (h : ∀ j, j < ls.length → (Ln.at ls j).c = s.cur) : linesB s ls = true := by
  unfold linesB
  rw [any_none ls _ fun j hj => by simpa using h j hj, decide_eq_true h2, decide_eq_true h8]
  rfl

theorem some_bad {ls : List Ln} {k : Nat} (hk : k < ls.length) (h : (Ln.at ls k).a = 0) : someB ls = false := by
  unfold someB
  rw [any_first ls (fun l => l.a == 0) k hk (by simpa using h)]
  rfl
theorem some_good {ls : List Ln} (h : ∀ j, j < ls.length → (Ln.at ls j).a ≠ 0) : someB ls = true := by
  unfold someB
  rw [any_none ls _ fun j hj => by simpa using h j hj]
  rfl
theorem fits_bad {ls : List Ln} {k : Nat} (hk : k < ls.length) (h : (Ln.at ls k).a = -9223372036854775808) : fitsB ls = false := by
  unfold fitsB
  rw [any_first ls (fun l => l.a == -9223372036854775808) k hk (by simpa using h)]
  rfl
theorem fits_good {ls : List Ln} (h : ∀ j, j < ls.length → (Ln.at ls j).a ≠ -9223372036854775808) : fitsB ls = true := by
  unfold fitsB
  rw [any_none ls _ fun j hj => by simpa using h j hj]
  rfl

set_option maxHeartbeats 4000000 in
set_option maxRecDepth 100000 in
theorem refcheck_ok (s : Six) (a : Option Addr) (cap : Nat) (ls : List Ln) (w : World) (hx : LnAt w a ls) (hl : ls.length ≤ 1000000) (hw : AllWf ls) :
    Calls Tryd.prog 71 #[entV s a ls.length cap] w fun e w' => e = .returned (.int .i64 (checkE s ls)) ∧ Below w.heap.size w w' := by
  obtain ⟨i0, hi, hz0, hz1, hz2⟩ := info_parts infoInt
  have HX := Lib.hid hx
  have HW := Lib.hid hw
  have HE : Hid (checkE s ls = if rangesB s ls then (if linesB s ls then (if someB ls then (if fitsB ls then (if evenB ls then 0 else 20) else 11) else 12) else 1) else 10) := rfl
  have HP0 := Lib.hid (prefB_zero s ls)
  have HPS := Lib.hid (prefB_succ s ls)
  have HPL := Lib.hid (prefB_len s ls)
  obtain ⟨con, day, cur, seq, per, ref⟩ := s
  show Calls Tryd.prog _ #[.agg #[.int .i64 con, .int .i64 day, .int .i64 cur, .int .i64 seq, .int .i64 per, .int .i64 ref, .slice a ls.length cap]] w _
  obtain ⟨wa, hwa⟩ : ∃ wa, w.alloc (.cells #[.int .i64 con, .int .i64 day, .int .i64 cur, .int .i64 seq, .int .i64 per, .int .i64 ref, .slice a ls.length cap] 90) = wa := ⟨_, rfl⟩
  have hba : Below w.heap.size w wa := by rw [← hwa]; exact (Below.refl _ _).alloc (Nat.le_refl _) _
  have hza : wa.heap.size = w.heap.size + 1 := by rw [← hwa]; simp
  have hbx : Blk wa w.heap.size #[.int .i64 con, .int .i64 day, .int .i64 cur, .int .i64 seq, .int .i64 per, .int .i64 ref, .slice a ls.length cap] 90 := by rw [← hwa]; exact Blk.new _ _ _
  have HB := Lib.hid hbx
  have HZA := Lib.hid hza
  have b0 := hbx.cell 0 rfl
  have b1 := hbx.cell 1 rfl
  have b2 := hbx.cell 2 rfl
  have b3 := hbx.cell 3 rfl
  have b4 := hbx.cell 4 rfl
  have b5 := hbx.cell 5 rfl
  have b6 := hbx.cell 6 rfl
  clear hbx hza hx hw
  go_enter Tryd.func71, Tryd.ntmps71
  go_upto_region 1 with fail
  go_cut [3] (fun s3 wx => s3 = .bool (prefB ⟨con, day, cur, seq, per, ref⟩ ls 0) ∧ wa = wx)
  case first =>
    obtain ⟨g, hg⟩ : ∃ g, tagOk con day cur = g := ⟨_, rfl⟩
    have HG := Lib.hid hg
    cases g
    all_goals
      clear hg
      go_wp2_with (go_at_call 78; refine (tagged_ok con day cur _).mono ?_; rintro e w1 ⟨rfl, rfl⟩; rw [HG.out])
      all_goals (go_meet; exact ⟨by rw [HP0.out, HG.out]; first | (simp [*]; done) | (simp [*]; omega), rfl⟩)
  case rest =>
    obtain ⟨rfl, rfl⟩ := hcut
    clear hwa b0 b1 b2 b3 b4 b5
    go_wp2_with fail
    go_loop [3, 4] (fun v i => ∃ k : Nat, k ≤ ls.length ∧ i = .int .i64 k ∧ v = .bool (prefB ⟨con, day, cur, seq, per, ref⟩ ls k)) (fun _ i => ls.length - (intOf i).toNat)
    case atStart => exact ⟨0, by omega, rfl, rfl⟩
    case round =>
      obtain ⟨k, hk, rfl, rfl⟩ := hrel
      obtain ⟨g, hg⟩ : ∃ g, prefB ⟨con, day, cur, seq, per, ref⟩ ls k = g := ⟨_, rfl⟩
      rw [hg]
      have HG := Lib.hid hg
      by_cases hlt : k < ls.length
      · obtain ⟨b, o, rfl, hc⟩ := (HX.out.after hba) (by omega)
        obtain ⟨d0, d1, d2⟩ := hc k hlt
        have hs := HPS.out k hlt
        obtain ⟨⟨lp, lc, la⟩, hLL⟩ : ∃ L, Ln.at ls k = L := ⟨_, rfl⟩
        rw [hLL, hg] at hs
        rw [hLL] at d0 d1 d2
        simp only at d0 d1 d2
        have HS := Lib.hid hs
        have j1 : (0 : Int) ≤ (k : Int) := by omega
        have j2 : (k : Int) < (ls.length : Int) := by omega
        clear hc hs hLL
        cases g
        all_goals
          clear hg
          go_wp2_with fail
          all_goals
            go_round
            case rel => exact ⟨k + 1, by omega, by go_num, by rw [HS.out]; unfold lineOk belowB; first | (simp [*]; done) | (refine congrArg Value.bool ?_; rw [Bool.eq_iff_iff]; simp [*]; omega)⟩
            case measure => simp [intOf]; omega
      · obtain rfl : k = ls.length := by omega
        rw [HPL.out] at HG
        cases g
        · clear hg
          go_wp2_with fail
          go_ret
          exact ⟨ret_int (by rw [HE.out, if_neg (by rw [HG.out]; decide)]), hba⟩
        · clear hg
          by_cases hn : 2 ≤ ls.length ∧ ls.length ≤ 8
          · obtain ⟨n1, n2⟩ := hn
            have n3 : decide ((ls.length : Int) < 2) = false := by rw [decide_eq_false_iff_not]; omega
            have n4 : decide (8 < (ls.length : Int)) = false := by rw [decide_eq_false_iff_not]; omega
            go_wp2_with fail
            clear n3 n4
            go_loopw [5] (fun i wr => ∃ k : Nat, k ≤ ls.length ∧ i = .int .i64 k ∧ (∀ j, j < k → (Ln.at ls j).c = cur) ∧ Below wa.heap.size wa wr) (fun i _ => ls.length - (intOf i).toNat)
            case atStart => exact ⟨0, by omega, rfl, fun j hj => absurd hj (by omega), Below.refl _ _⟩
            case round =>
              obtain ⟨k, hk, rfl, hall, hbl⟩ := hrel
              have HA := Lib.hid hall
              clear hall b6
              have b2 := (HB.out.after hbl).cell 2 rfl
              have b6 := (HB.out.after hbl).cell 6 rfl
              by_cases hlt : k < ls.length
              · obtain ⟨b, o, rfl, hc⟩ := ((HX.out.after hba).after hbl) (by omega)
                obtain ⟨d0, d1, d2⟩ := hc k hlt
                have j1 : (0 : Int) ≤ (k : Int) := by omega
                have j2 : (k : Int) < (ls.length : Int) := by omega
                have hend : Below w.heap.size w wr := hba.trans (hbl.mono hba.size)
                clear hc
                by_cases hcc : (Ln.at ls k).c = cur
                · have HC := Lib.hid hcc
                  rw [hcc] at d1
                  clear hcc
                  go_wp2_with (go_quiet (fail))
                  go_roundw
                  case rel => exact ⟨k + 1, by omega, by go_num, fun j hj => by
                    rcases Nat.lt_or_ge j k with g | g
                    · exact HA.out j g
                    · obtain rfl : j = k := by omega
                      exact HC.out, hbl.trans (below_draws _ _)⟩
                  case measure => simp [intOf]; omega
                · have hne : ((Ln.at ls k).c != cur) = true := by rw [bne_iff_ne]; exact hcc
                  have HC := Lib.hid hcc
                  clear hcc
                  go_wp2_with (go_quiet (fail))
                  go_ret
                  exact ⟨ret_int (by rw [HE.out, if_pos HG.out, if_neg (by intro h; exact lines_bad hlt HC.out h)]), hend.trans (below_draws _ _)⟩
              · obtain rfl : k = ls.length := by omega
                have HLB : Hid (linesB ⟨con, day, cur, seq, per, ref⟩ ls = true) := lines_good n1 n2 HA.out
                go_wp2_with fail
                clear b2 b6
                obtain ⟨wb, rfl⟩ : ∃ wb : World, wb = wr := ⟨_, rfl⟩
                go_loopw [6, 7] (fun v i wr => ∃ k : Nat, k ≤ ls.length ∧ i = .int .i64 k ∧ (∀ j, j < k → (Ln.at ls j).a ≠ 0) ∧ wr.ownsRow wa.heap.size 3 1 v k (amts ls k) ∧ Below wa.heap.size wa wr) (fun _ i _ => ls.length - (intOf i).toNat)
                case atStart => exact ⟨0, by omega, rfl, fun j hj => absurd hj (by omega), World.ownsRow_nil _ _ _ _, hbl⟩
                case round =>
                  obtain ⟨k, hk, rfl, hall, hown, hbl⟩ := hrel
                  have HA := Lib.hid hall
                  clear hall
                  have b6 := (HB.out.after hbl).cell 6 rfl
                  have hend : Below w.heap.size w wr := hba.trans (hbl.mono hba.size)
                  by_cases hlt : k < ls.length
                  · obtain ⟨b, o, rfl, hc⟩ := ((HX.out.after hba).after hbl) (by omega)
                    obtain ⟨d0, d1, d2⟩ := hc k hlt
                    have j1 : (0 : Int) ≤ (k : Int) := by omega
                    have j2 : (k : Int) < (ls.length : Int) := by omega
                    have hN : Hid (amts ls (k + 1) = amts ls k ++ [.int .i64 (Ln.at ls k).a]) := amts_succ ls k
                    obtain ⟨la, hla⟩ : ∃ la, (Ln.at ls k).a = la := ⟨_, rfl⟩
                    rw [hla] at d2 hN
                    clear hc
                    by_cases h0 : la = 0
                    · have HZ : Hid (someB ls = false) := some_bad hlt (by rw [hla]; exact h0)
                      subst h0
                      clear hla
                      go_wp2_with fail
                      go_ret
                      exact ⟨ret_int (by rw [HE.out, if_pos HG.out, if_pos HLB.out, if_neg (by rw [HZ.out]; decide)]), hend⟩
                    · have h0' : (la == 0) = false := by rw [beq_eq_false_iff_ne]; exact h0
                      have HZ : Hid ((Ln.at ls k).a ≠ 0) := by rw [hla]; exact h0
                      clear hla h0
                      go_wp2_with (at_builtin; refine wpList_append_own _ rfl _ _ 57 rfl wa.heap.size 3 i0 (.int .i64 0) 1 8 Tryd.underlying57 hi hz0 hz1 hz2 rfl (by decide) _ _ _ rfl (hown.alloc _) ⟨wr.heap.size, 0, none⟩ 1 1 [.int .i64 la] rfl rfl (by have := news_one wr (.int .i64 la) 3; simpa using this) (by simp [Value.oneCell']) (by unfold maxLen; omega) (by omega) (by have := hbl.size; simp; omega) ?_; intro v' w1 hown' hgrow _)
                      have hb3 : Below wa.heap.size wa w1 := (hbl.alloc hbl.size _).grown hgrow (by have := hbl.size; simp; omega) (fun q e => by have := (hown.lt q e).1; omega)
                      rw [← hN.out] at hown'
                      go_roundw
                      case rel => exact ⟨k + 1, by omega, by go_num, fun j hj => by
                        rcases Nat.lt_or_ge j k with g | g
                        · exact HA.out j g
                        · obtain rfl : j = k := by omega
                          exact HZ.out, hown', hb3⟩
                      case measure => simp [intOf]; omega
                  · obtain rfl : k = ls.length := by omega
                    have HSB : Hid (someB ls = true) := some_good HA.out
                    obtain ⟨c, capc, rfl, hrow⟩ := owned_amts hown
                    have HR := Lib.hid hrow
                    clear hrow hown
                    go_wp2_with fail
                    obtain ⟨wz, rfl⟩ : ∃ wz : World, wz = wr := ⟨_, rfl⟩
                    go_loop [8] (fun i => ∃ k : Nat, k ≤ ls.length ∧ i = .int .i64 k ∧ (∀ j, j < k → (Ln.at ls j).a ≠ -9223372036854775808)) (fun i => ls.length - (intOf i).toNat)
                    case atStart => exact ⟨0, by omega, rfl, fun j hj => absurd hj (by omega)⟩
                    case round =>
                      obtain ⟨k, hk, rfl, hall⟩ := hrel
                      have HA := Lib.hid hall
                      clear hall
                      by_cases hlt : k < ls.length
                      · obtain ⟨b, o, rfl, hc⟩ := HR.out (by omega)
                        have d2 := hc k hlt
                        unfold numV at d2
                        rw [at_map] at d2
                        have j1 : (0 : Int) ≤ (k : Int) := by omega
                        have j2 : (k : Int) < (ls.length : Int) := by omega
                        clear hc
                        obtain ⟨la, hla⟩ : ∃ la, (Ln.at ls k).a = la := ⟨_, rfl⟩
                        rw [hla] at d2
                        by_cases h0 : la = -9223372036854775808
                        · have HZ : Hid (fitsB ls = false) := fits_bad hlt (by rw [hla]; exact h0)
                          subst h0
                          clear hla
                          go_wp2_with fail
                          go_ret
                          exact ⟨ret_int (by rw [HE.out, if_pos HG.out, if_pos HLB.out, if_pos HSB.out, if_neg (by rw [HZ.out]; decide)]), hend⟩
                        · have h0' : (la == -9223372036854775808) = false := by rw [beq_eq_false_iff_ne]; exact h0
                          have HZ : Hid ((Ln.at ls k).a ≠ -9223372036854775808) := by rw [hla]; exact h0
                          clear hla h0
                          go_wp2_with fail
                          go_round
                          case rel => exact ⟨k + 1, by omega, by go_num, fun j hj => by
                            rcases Nat.lt_or_ge j k with g | g
                            · exact HA.out j g
                            · obtain rfl : j = k := by omega
                              exact HZ.out⟩
                          case measure => simp [intOf]; omega
                      · obtain rfl : k = ls.length := by omega
                        have HFB : Hid (fitsB ls = true) := fits_good HA.out
                        have HEV : Hid (evenB ls = decide ((ls.map Ln.a).sum = 0)) := rfl
                        have hlen : (ls.map Ln.a).length = ls.length := by simp
                        have hsum := sum_big c capc (ls.map Ln.a) wz (by rw [hlen]; exact HR.out) HW.out.amt (by rw [hlen]; exact hl)
                        rw [hlen] at hsum
                        obtain ⟨S, hS⟩ : ∃ S, (ls.map Ln.a).sum = S := ⟨_, rfl⟩
                        rw [hS] at hsum HEV
                        have HC := Lib.hid hsum
                        clear hsum hlen hS b6
                        go_wp2_with fail
                        with_reducible refine HC.out.mono ?_
                        rintro e w1 ⟨sg, ab, lb, cb, rfl, hbig, hb1, _⟩
                        have hend2 : Below w.heap.size w w1 := hend.trans (hb1.mono hend.size)
                        cases hf : fitsI S
                        · have HNO := Lib.hid (int_no S sg ab lb cb w1 hbig hf)
                          have HZ : Hid (evenB ls = false) := by rw [HEV.out, decide_eq_false_iff_not]; rintro rfl; revert hf; decide
                          clear hbig hf
                          go_wp2_with fail
                          with_reducible refine HNO.out.mono ?_
                          rintro e w2 ⟨rfl, hb2⟩
                          go_wp2_with fail
                          go_ret
                          exact ⟨ret_int (by rw [HE.out, if_pos HG.out, if_pos HLB.out, if_pos HSB.out, if_pos HFB.out, if_neg (by rw [HZ.out]; decide)]), hend2.trans (hb2.mono hend2.size)⟩
                        · have HYES := Lib.hid (int_yes S sg ab lb cb w1 hbig hf)
                          clear hbig hf
                          by_cases h0 : S = 0
                          · have HZ : Hid (evenB ls = true) := by rw [HEV.out, decide_eq_true_iff]; exact h0
                            subst h0
                            go_wp2_with fail
                            with_reducible refine HYES.out.mono ?_
                            rintro e w2 ⟨rfl, hb2⟩
                            go_wp2_with fail
                            go_ret
                            exact ⟨ret_int (by rw [HE.out, if_pos HG.out, if_pos HLB.out, if_pos HSB.out, if_pos HFB.out, if_pos HZ.out]), hend2.trans (hb2.mono hend2.size)⟩
                          · have HZ : Hid (evenB ls = false) := by rw [HEV.out, decide_eq_false_iff_not]; exact h0
                            have h0' : (S != 0) = true := by rw [bne_iff_ne]; exact h0
                            clear h0
                            go_wp2_with fail
                            with_reducible refine HYES.out.mono ?_
                            rintro e w2 ⟨rfl, hb2⟩
                            go_wp2_with fail
                            go_ret
                            exact ⟨ret_int (by rw [HE.out, if_pos HG.out, if_pos HLB.out, if_pos HSB.out, if_pos HFB.out, if_neg (by rw [HZ.out]; decide)]), hend2.trans (hb2.mono hend2.size)⟩
          · have HN := Lib.hid hn
            by_cases hn1 : (ls.length : Int) < 2
            all_goals
              have hn2 : decide ((ls.length : Int) < 2) = true ∨ decide (8 < (ls.length : Int)) = true := by rw [decide_eq_true_iff, decide_eq_true_iff]; omega
              clear hn
              first
                | (have hn3 : decide ((ls.length : Int) < 2) = true := by rw [decide_eq_true_iff]; exact hn1
                   clear hn2)
                | (have hn4 : 8 < (ls.length : Int) := by rcases hn2 with h | h <;> simp at h <;> omega
                   have hn3 : decide ((ls.length : Int) < 2) = false := by rw [decide_eq_false_iff_not]; exact hn1
                   have hn5 : decide (8 < (ls.length : Int)) = true := by rw [decide_eq_true_iff]; exact hn4
                   clear hn2)
              go_wp2_with fail
              go_ret
              exact ⟨ret_int (by rw [HE.out, if_pos HG.out, if_neg (by intro h; unfold linesB at h; rw [Bool.and_eq_true, Bool.and_eq_true] at h; exact HN.out ⟨of_decide_eq_true h.1.1, of_decide_eq_true h.1.2⟩)]), hba⟩
end Go.Proofs.YtpinhomalmknjaaDoor
/- The document's answer for entries: Flow. -/
namespace Go.Proofs.YtpinhomalmknjaaDoor
open Go.RowKit
set_option linter.unusedVariables false
set_option maxRecDepth 100000
set_option linter.unusedSimpArgs false

theorem flow_range {con day cur a h v : Int} (g : tagOk con day cur = true → ¬ (0 ≤ h ∧ h < 16 ∧ 0 ≤ v ∧ v < 16)) : flowErr con day cur a h v = 10 := by
  unfold flowErr
  split
  · rename_i h1
    split
    · rename_i h2
      split
      · rename_i h3
        exact absurd (by unfold belowB at h2 h3; simp at h2 h3; omega) (g h1)
      · rfl
    · rfl
  · rfl
theorem flow_more {con day cur a h v : Int} (g : tagOk con day cur = true) (b : 0 ≤ h ∧ h < 16 ∧ 0 ≤ v ∧ v < 16) : flowErr con day cur a h v = if h = v then 1 else if a = 0 then 12 else if a = -9223372036854775808 then 11 else 0 := by
  unfold flowErr belowB
  rw [if_pos g, if_pos (by simp; omega), if_pos (by simp; omega)]


theorem new_two {W : World} {c : Nat} (hc : W.heap.size = c) (l1 l2 : Ln) (t : TypeId) :
    LnAt (W.alloc (.cells #[.int .i64 l1.p, .int .i64 l1.c, .int .i64 l1.a, .int .i64 l2.p, .int .i64 l2.c, .int .i64 l2.a] t)) (some ⟨c, 0, none⟩) [l1, l2] := fun _ => ⟨c, 0, rfl, fun i hi => by
  subst hc
  rcases (show i = 0 ∨ i = 1 by simp at hi; omega) with rfl | rfl
  · exact ⟨World.cell?_alloc_new _ _ _ 0, World.cell?_alloc_new _ _ _ 1, World.cell?_alloc_new _ _ _ 2⟩
  · exact ⟨World.cell?_alloc_new _ _ _ 3, World.cell?_alloc_new _ _ _ 4, World.cell?_alloc_new _ _ _ 5⟩⟩

end Go.Proofs.YtpinhomalmknjaaDoor
/- Plain: an entry as the document's answer has it. -/
namespace Go.Proofs.YtpinhomalmknjaaDoor
open Go.RowKit
set_option linter.unusedVariables false
set_option maxRecDepth 100000
set_option linter.unusedSimpArgs false

theorem infoRLine : (Tryd.prog.info? 91).map (fun i => (i.zero, i.size, i.bytes)) = some (some (.agg #[.int .i64 0, .int .i64 0, .int .i64 0]), 3, 24) := by kernel_rfl

/-- A line's cells. -/
def lnRow (ls : List Ln) (i : Nat) : List Value := [.int .i64 (Ln.at ls i).p, .int .i64 (Ln.at ls i).c, .int .i64 (Ln.at ls i).a]
theorem rows_ln {w : World} {a : Option Addr} {ls : List Ln} (h : RowsAt w a ls.length 3 (lnRow ls)) : LnAt w a ls := fun hl => by
  obtain ⟨b, o, e, hc⟩ := h hl
  exact ⟨b, o, e, fun i hi => ⟨hc i hi 0 _ rfl, hc i hi 1 _ rfl, hc i hi 2 _ rfl⟩⟩

theorem OBox.of_blk {w : World} {B : Nat} {T : TypeId} (h : Blk w B (entCs zero6 none 0 0) T) : OBox w B :=
  ⟨⟨h.cell 0 rfl, h.cell 1 rfl, h.cell 2 rfl, h.cell 3 rfl, h.cell 4 rfl, h.cell 5 rfl, h.cell 6 rfl⟩, h.free 0, h.free 1, h.free 2, h.free 3, h.free 4, h.free 5, h.free 6⟩

theorem own_base {w : World} {base base' e size n : Nat} {v : Value} {xs : List Value} (h : w.ownsRow base e size v n xs) (hb : base' ≤ base) : w.ownsRow base' e size v n xs := by
  obtain ⟨h1, h2⟩ := h
  refine ⟨h1, ?_⟩
  rcases h2 with h2 | ⟨g, cap, cur, hv, hg, r⟩
  · exact Or.inl h2
  · exact Or.inr ⟨g, cap, cur, hv, Nat.le_trans hb hg, r⟩

def PlainEnd (s : Six) (ls : List Ln) (w : World) (e : Ending) (w' : World) : Prop :=
  ∃ c cap, e = .returned (entV s c ls.length cap) ∧ (c = none → ls.length = 0 ∧ cap = 0) ∧ LnAt w' c ls ∧ Below w.heap.size w w' ∧ (∀ x, c = some x → w.heap.size ≤ x.block) ∧ w'.ownsRow w.heap.size 91 3 (.slice c ls.length cap) ls.length (flatF (lnRow ls) ls.length)

/-- What stands of Plain at the head of its loop. -/
def PlainRel (s : Six) (a : Option Addr) (cap0 : Nat) (ls : List Ln) (w wa wb wc : World) (k : Nat) (wr : World) : Prop :=
  ∃ c cap, wr.ownsRow wc.heap.size 91 3 (.slice c k cap) k (flatF (lnRow ls) k) ∧ Blk wr wb.heap.size #[.int .i64 s.con, .int .i64 s.day, .int .i64 s.cur, .int .i64 s.seq, .int .i64 s.per, .int .i64 s.ref, .slice c k cap] 90
    ∧ Blk wr w.heap.size (entCs s a ls.length cap0) 27 ∧ Blk wr wa.heap.size (entCs zero6 none 0 0) 90 ∧ Below w.heap.size w wr ∧ wc.heap.size ≤ wr.heap.size

/-- What the append leaves as it was. -/
theorem PlainRel.kept {s : Six} {a : Option Addr} {cap0 : Nat} {ls : List Ln} {w wa wb wc : World} {k : Nat} {wr wd w1 : World} {v : Value} {cs : Array Value} (hown : wr.ownsRow wc.heap.size 91 3 v k (flatF (lnRow ls) k)) (h2 : Blk wr wb.heap.size cs 90)
    (h0 : Blk wr w.heap.size (entCs s a ls.length cap0) 27) (h1 : Blk wr wa.heap.size (entCs zero6 none 0 0) 90) (hbl : Below w.heap.size w wr) (hz : w.heap.size ≤ wc.heap.size) (hd : Below wr.heap.size wr wd) (hg : wd.grownBy w1 v.ownBlock) :
    Blk w1 wb.heap.size cs 90 ∧ Blk w1 w.heap.size (entCs s a ls.length cap0) 27 ∧ Blk w1 wa.heap.size (entCs zero6 none 0 0) 90 ∧ Below w.heap.size w w1 ∧ wr.heap.size ≤ w1.heap.size :=
  ⟨(h2.after hd).grown hg (h2.own_ne hown (by decide)), (h0.after hd).grown hg (h0.own_ne hown (by decide)), (h1.after hd).grown hg (h1.own_ne hown (by decide)),
   (hbl.trans (hd.mono hbl.size)).grown hg (Nat.le_trans hbl.size hd.size) (fun q e => by have := (hown.lt q e).1; omega), Nat.le_trans hd.size hg.size⟩

set_option maxHeartbeats 1000000 in
theorem plain_ok (s : Six) (a : Option Addr) (cap0 : Nat) (ls : List Ln) (w : World) (hx : LnAt w a ls) (hl : ls.length ≤ 1000) :
    Calls Tryd.prog 60 #[entV s a ls.length cap0] w (PlainEnd s ls w) := by
  obtain ⟨i0, hi, hz0, hz1, hz2⟩ := info_parts infoRLine
  obtain ⟨wa, hwa⟩ : ∃ wa, w.alloc (.cells (entCs s a ls.length cap0) 27) = wa := ⟨_, rfl⟩
  obtain ⟨wb, hwb⟩ : ∃ wb, wa.alloc (.cells (entCs zero6 none 0 0) 90) = wb := ⟨_, rfl⟩
  obtain ⟨wc, hwc⟩ : ∃ wc, wb.alloc (.cells (entCs s none 0 0) 90) = wc := ⟨_, rfl⟩
  have k0 : Blk wa w.heap.size (entCs s a ls.length cap0) 27 := by rw [← hwa]; exact Blk.new _ _ _
  have k1 : Blk wb wa.heap.size (entCs zero6 none 0 0) 90 := by rw [← hwb]; exact Blk.new _ _ _
  have k2 : Blk wc wb.heap.size (entCs s none 0 0) 90 := by rw [← hwc]; exact Blk.new _ _ _
  have ba : Below w.heap.size w wa := by rw [← hwa]; exact (Below.refl _ _).alloc (Nat.le_refl _) _
  have bb : Below wa.heap.size wa wb := by rw [← hwb]; exact (Below.refl _ _).alloc (Nat.le_refl _) _
  have bc : Below wb.heap.size wb wc := by rw [← hwc]; exact (Below.refl _ _).alloc (Nat.le_refl _) _
  have za : wa.heap.size = w.heap.size + 1 := by rw [← hwa]; simp
  have zb : wb.heap.size = wa.heap.size + 1 := by rw [← hwb]; simp
  have zc : wc.heap.size = wb.heap.size + 1 := by rw [← hwc]; simp
  have K0 := Lib.hid ((k0.after bb).after bc)
  have K1 := Lib.hid (k1.after bc)
  have K2 := Lib.hid k2
  have hbw : Below w.heap.size w wc := (ba.trans (bb.mono ba.size)).trans (bc.mono (by omega))
  have HZ : Hid (wa.heap.size = w.heap.size + 1 ∧ wb.heap.size = wa.heap.size + 1 ∧ wc.heap.size = wb.heap.size + 1) := ⟨za, zb, zc⟩
  have HX := Lib.hid hx
  obtain ⟨con, day, cur, seq, per, ref⟩ := s
  simp only [entCs, zero6] at hwa hwb hwc
  have q0 : wb.cell? ⟨w.heap.size, 0, none⟩ = some (.int .i64 con) := (k0.after bb).cell 0 rfl
  have q1 : wb.cell? ⟨w.heap.size, 1, none⟩ = some (.int .i64 day) := (k0.after bb).cell 1 rfl
  have q2 : wb.cell? ⟨w.heap.size, 2, none⟩ = some (.int .i64 cur) := (k0.after bb).cell 2 rfl
  have q3 : wb.cell? ⟨w.heap.size, 3, none⟩ = some (.int .i64 seq) := (k0.after bb).cell 3 rfl
  have q4 : wb.cell? ⟨w.heap.size, 4, none⟩ = some (.int .i64 per) := (k0.after bb).cell 4 rfl
  have q5 : wb.cell? ⟨w.heap.size, 5, none⟩ = some (.int .i64 ref) := (k0.after bb).cell 5 rfl
  clear za zb zc k0 k1 k2 ba bb bc hx
  show Calls Tryd.prog _ #[.agg #[.int .i64 con, .int .i64 day, .int .i64 cur, .int .i64 seq, .int .i64 per, .int .i64 ref, .slice a ls.length cap0]] w _
  go_enter Tryd.func60, Tryd.ntmps60
  have HWC := Lib.hid hwc
  clear hwc
  go_wp2_with fail
  rw [HWC.out]
  clear hwa hwb HWC q0 q1 q2 q3 q4 q5
  go_loopw [4] (fun i wr => ∃ k : Nat, k ≤ ls.length ∧ i = .int .i64 k ∧ PlainRel ⟨con, day, cur, seq, per, ref⟩ a cap0 ls w wa wb wc k wr) (fun i _ => ls.length - (intOf i).toNat)
  case atStart => exact ⟨0, by omega, rfl, none, 0, World.ownsRow_nil _ _ _ _, K2.out, K0.out, K1.out, hbw, Nat.le_refl _⟩
  case round =>
    obtain ⟨k, hk, rfl, c, cap, hown, h2, h0, h1, hbl, zr⟩ := hrel
    have b6 : wr.cell? ⟨w.heap.size, 6, none⟩ = some (.slice a ls.length cap0) := h0.cell 6 rfl
    by_cases hlt : k < ls.length
    · obtain ⟨b, o, rfl, hc⟩ := HX.out (by omega)
      obtain ⟨d0, d1, d2⟩ := hc k hlt
      have hN : Hid (flatF (lnRow ls) (k + 1) = flatF (lnRow ls) k ++ [.int .i64 (Ln.at ls k).p, .int .i64 (Ln.at ls k).c, .int .i64 (Ln.at ls k).a]) := rfl
      obtain ⟨⟨lp, lc, la⟩, hLL⟩ : ∃ L, Ln.at ls k = L := ⟨_, rfl⟩
      rw [hLL] at d0 d1 d2 hN
      simp only at d0 d1 d2 hN
      have j1 : (0 : Int) ≤ (k : Int) := by omega
      have j2 : (k : Int) < (ls.length : Int) := by omega
      have l6 : wr.cell? ⟨wb.heap.size, 6, none⟩ = some (.slice c k cap) := h2.cell 6 rfl
      have DW : Hid (w.cell? ⟨b, o + k * 3, none⟩ = some (.int .i64 lp) ∧ w.cell? ⟨b, o + k * 3 + 1, none⟩ = some (.int .i64 lc) ∧ w.cell? ⟨b, o + k * 3 + 2, none⟩ = some (.int .i64 la)) := ⟨d0, d1, d2⟩
      replace d0 := below_cell hbl d0
      replace d1 := below_cell hbl d1
      replace d2 := below_cell hbl d2
      clear hc hLL
      go_wp2_with fail
      have e6 := below_cell (Below.refl wr.heap.size wr).drew b6
      have e0 := below_cell (Below.refl wr.heap.size wr).drew d0
      have e1 := below_cell (Below.refl wr.heap.size wr).drew d1
      have e2 := below_cell (Below.refl wr.heap.size wr).drew d2
      have zr2 := hbw.size
      have n1 : w.heap.size ≠ wb.heap.size := by have := HZ.out; omega
      have n2 : b ≠ wb.heap.size := by have := World.block_lt_of_cell? w _ DW.out.1; have := HZ.out; simp at *; omega
      refine wp_region_final (fun w' => w'.cell? ⟨wb.heap.size, 6, none⟩ = some (.slice c k cap) ∧ w'.cell? ⟨w.heap.size, 6, none⟩ = some (.slice (some ⟨b, o, none⟩) ls.length cap0) ∧ w'.cell? ⟨b, o + k * 3, none⟩ = some (.int .i64 lp) ∧ w'.cell? ⟨b, o + k * 3 + 1, none⟩ = some (.int .i64 lc) ∧ w'.cell? ⟨b, o + k * 3 + 2, none⟩ = some (.int .i64 la)) 24 (by kernel_rfl) ?_
      obtain ⟨wd, hwd⟩ : ∃ wd, wr.drew = wd := ⟨_, rfl⟩
      have hbd : Below wr.heap.size wr wd := by rw [← hwd]; exact (Below.refl _ _).drew
      have hba : Below wd.heap.size wd (wd.alloc (.cells #[.int .i64 lp, .int .i64 lc, .int .i64 la] 91)) := (Below.refl _ _).alloc (Nat.le_refl _) _
      have hownd := own_after hown hbd
      have hbD : Below wr.heap.size wr (wd.alloc (.cells #[.int .i64 lp, .int .i64 lc, .int .i64 la] 91)) := hbd.trans (hba.mono hbd.size)
      have hr := fun (w1 : World) (hg : World.grownBy (wd.alloc (.cells #[.int .i64 lp, .int .i64 lc, .int .i64 la] 91)) w1 (Value.ownBlock (.slice c k cap))) => PlainRel.kept hown h2 h0 h1 hbl hbw.size hbD hg
      have HR := Lib.hid hr
      have zdz := hbd.size
      have n3 : wa.heap.size ≠ wb.heap.size := by have := HZ.out; omega
      clear hr
      have hSd : wd.cell? ⟨wb.heap.size, 6, none⟩ = some (.slice c k cap) ∧ wd.cell? ⟨w.heap.size, 6, none⟩ = some (.slice (some ⟨b, o, none⟩) ls.length cap0) ∧ wd.cell? ⟨b, o + k * 3, none⟩ = some (.int .i64 lp) ∧ wd.cell? ⟨b, o + k * 3 + 1, none⟩ = some (.int .i64 lc) ∧ wd.cell? ⟨b, o + k * 3 + 2, none⟩ = some (.int .i64 la) := by rw [← hwd]; exact ⟨below_cell (Below.refl wr.heap.size wr).drew l6, e6, e0, e1, e2⟩
      rw [hwd]
      clear hwd
      refine wpAnyF_takes (i := 0) (v := ?_) rfl (by kernel_rfl) (fun _ _ _ h => h) (by rfl) hSd ?_ ?_
      rotate_left 1
      · intro w hSw
        obtain ⟨s1, s2, s3, s4, s5⟩ := hSw
        go_simp
        try with_reducible rfl
      try simp only [Act.put, List.setIfInBounds_toArray, List.set_cons_zero, List.set_cons_succ]
      refine wpAnyF_takes (i := 1) (v := ?_) rfl (by kernel_rfl) (fun _ _ _ h => h) (by rfl) hSd ?_ ?_
      rotate_left 1
      · intro w hSw
        obtain ⟨s1, s2, s3, s4, s5⟩ := hSw
        go_simp
        try with_reducible rfl
      try simp only [Act.put, List.setIfInBounds_toArray, List.set_cons_zero, List.set_cons_succ]
      refine wpAnyF_takes (i := 2) (v := ?_) rfl (by kernel_rfl) (fun _ _ _ h => h) (by rfl) hSd ?_ ?_
      rotate_left 1
      · intro w hSw
        obtain ⟨s1, s2, s3, s4, s5⟩ := hSw
        go_simp
        try with_reducible rfl
      try simp only [Act.put, List.setIfInBounds_toArray, List.set_cons_zero, List.set_cons_succ]
      refine wpAnyF_takes (i := 3) (v := ?_) rfl (by kernel_rfl) (fun _ _ _ h => h) (by rfl) hSd ?_ ?_
      rotate_left 1
      · intro w hSw
        obtain ⟨s1, s2, s3, s4, s5⟩ := hSw
        go_simp
        try with_reducible rfl
      try simp only [Act.put, List.setIfInBounds_toArray, List.set_cons_zero, List.set_cons_succ]
      refine wpAnyF_takes (i := 4) (v := ?_) rfl (by kernel_rfl) (fun _ _ _ h => h) (by rfl) hSd ?_ ?_
      rotate_left 1
      · intro w hSw
        obtain ⟨s1, s2, s3, s4, s5⟩ := hSw
        go_simp
        try with_reducible rfl
      try simp only [Act.put, List.setIfInBounds_toArray, List.set_cons_zero, List.set_cons_succ]
      refine wpAnyF_takes (i := 5) (v := ?_) rfl (by kernel_rfl) (fun _ _ _ h => h) (by rfl) hSd ?_ ?_
      rotate_left 1
      · intro w hSw
        obtain ⟨s1, s2, s3, s4, s5⟩ := hSw
        go_simp
        try with_reducible rfl
      try simp only [Act.put, List.setIfInBounds_toArray, List.set_cons_zero, List.set_cons_succ]
      refine wpAnyF_takes (i := 6) (v := ?_) rfl (by kernel_rfl) (fun _ _ _ h => h) (by rfl) hSd ?_ ?_
      rotate_left 1
      · intro w hSw
        obtain ⟨s1, s2, s3, s4, s5⟩ := hSw
        go_simp
        try with_reducible rfl
      try simp only [Act.put, List.setIfInBounds_toArray, List.set_cons_zero, List.set_cons_succ]
      refine wpAnyF_takes (i := 7) (v := ?_) rfl (by kernel_rfl) (fun _ _ _ h => h) (by rfl) hSd ?_ ?_
      rotate_left 1
      · intro w hSw
        obtain ⟨s1, s2, s3, s4, s5⟩ := hSw
        go_simp
        try with_reducible rfl
      try simp only [Act.put, List.setIfInBounds_toArray, List.set_cons_zero, List.set_cons_succ]
      refine wpAnyF_takes (i := 8) (v := ?_) rfl (by kernel_rfl) (fun _ _ _ h => h) (by rfl) hSd ?_ ?_
      rotate_left 1
      · intro w hSw
        obtain ⟨s1, s2, s3, s4, s5⟩ := hSw
        go_simp
        try with_reducible rfl
      try simp only [Act.put, List.setIfInBounds_toArray, List.set_cons_zero, List.set_cons_succ]
      refine wpAnyF_takes (i := 9) (v := ?_) rfl (by kernel_rfl) (fun _ _ _ h => h) (by rfl) hSd ?_ ?_
      rotate_left 1
      · intro w hSw
        obtain ⟨s1, s2, s3, s4, s5⟩ := hSw
        go_simp
        try with_reducible rfl
      try simp only [Act.put, List.setIfInBounds_toArray, List.set_cons_zero, List.set_cons_succ]
      refine wpAnyF_takes (i := 10) (v := ?_) rfl (by kernel_rfl) (fun _ _ _ h => h) (by rfl) hSd ?_ ?_
      rotate_left 1
      · intro w hSw
        obtain ⟨s1, s2, s3, s4, s5⟩ := hSw
        go_simp
        try with_reducible rfl
      try simp only [Act.put, List.setIfInBounds_toArray, List.set_cons_zero, List.set_cons_succ]
      refine wpAnyF_takes (i := 11) (v := ?_) rfl (by kernel_rfl) (fun _ _ _ h => h) (by rfl) hSd ?_ ?_
      rotate_left 1
      · intro w hSw
        obtain ⟨s1, s2, s3, s4, s5⟩ := hSw
        go_simp
        try with_reducible rfl
      try simp only [Act.put, List.setIfInBounds_toArray, List.set_cons_zero, List.set_cons_succ]
      refine wpAnyF_takes (i := 12) (v := ?_) rfl (by kernel_rfl) (fun _ _ _ h => h) (by rfl) hSd ?_ ?_
      rotate_left 1
      · intro w hSw
        obtain ⟨s1, s2, s3, s4, s5⟩ := hSw
        go_simp
        try with_reducible rfl
      try simp only [Act.put, List.setIfInBounds_toArray, List.set_cons_zero, List.set_cons_succ]
      refine wpAnyF_takes (i := 13) (v := ?_) rfl (by kernel_rfl) (fun _ _ _ h => h) (by rfl) hSd ?_ ?_
      rotate_left 1
      · intro w hSw
        obtain ⟨s1, s2, s3, s4, s5⟩ := hSw
        go_simp
        try with_reducible rfl
      try simp only [Act.put, List.setIfInBounds_toArray, List.set_cons_zero, List.set_cons_succ]
      refine wpAnyF_takes (i := 14) (v := ?_) rfl (by kernel_rfl) (fun _ _ _ h => h) (by rfl) hSd ?_ ?_
      rotate_left 1
      · intro w hSw
        obtain ⟨s1, s2, s3, s4, s5⟩ := hSw
        go_simp
        try with_reducible rfl
      try simp only [Act.put, List.setIfInBounds_toArray, List.set_cons_zero, List.set_cons_succ]
      refine wpAnyF_takes (i := 15) (v := ?_) rfl (by kernel_rfl) (fun _ _ _ h => h) (by rfl) hSd ?_ ?_
      rotate_left 1
      · intro w hSw
        obtain ⟨s1, s2, s3, s4, s5⟩ := hSw
        go_simp
        try with_reducible rfl
      try simp only [Act.put, List.setIfInBounds_toArray, List.set_cons_zero, List.set_cons_succ]
      refine wpAnyF_takes (i := 16) (v := ?_) rfl (by kernel_rfl) (fun _ _ _ h => h) (by rfl) hSd ?_ ?_
      rotate_left 1
      · intro w hSw
        obtain ⟨s1, s2, s3, s4, s5⟩ := hSw
        go_simp
        try with_reducible rfl
      try simp only [Act.put, List.setIfInBounds_toArray, List.set_cons_zero, List.set_cons_succ]
      refine wpAnyF_takes (i := 17) (v := ?_) rfl (by kernel_rfl) (fun _ _ _ h => h) (by rfl) hSd ?_ ?_
      rotate_left 1
      · intro w hSw
        obtain ⟨s1, s2, s3, s4, s5⟩ := hSw
        go_simp
        try with_reducible rfl
      try simp only [Act.put, List.setIfInBounds_toArray, List.set_cons_zero, List.set_cons_succ]
      refine wpAnyF_takes (i := 18) (v := ?_) rfl (by kernel_rfl) (fun _ _ _ h => h) (by rfl) hSd ?_ ?_
      rotate_left 1
      · intro w hSw
        obtain ⟨s1, s2, s3, s4, s5⟩ := hSw
        go_simp
        try with_reducible rfl
      try simp only [Act.put, List.setIfInBounds_toArray, List.set_cons_zero, List.set_cons_succ]
      refine wpAnyF_takes (i := 19) (v := ?_) rfl (by kernel_rfl) (fun _ _ _ h => h) (by rfl) hSd ?_ ?_
      rotate_left 1
      · intro w hSw
        obtain ⟨s1, s2, s3, s4, s5⟩ := hSw
        go_simp
        try with_reducible rfl
      try simp only [Act.put, List.setIfInBounds_toArray, List.set_cons_zero, List.set_cons_succ]
      refine wpAnyF_takes (i := 20) (v := ?_) rfl (by kernel_rfl) (fun _ _ _ h => h) (by rfl) hSd ?_ ?_
      rotate_left 1
      · intro w hSw
        obtain ⟨s1, s2, s3, s4, s5⟩ := hSw
        go_simp
        try with_reducible rfl
      try simp only [Act.put, List.setIfInBounds_toArray, List.set_cons_zero, List.set_cons_succ]
      refine wpAnyF_next (i := 21) rfl (by kernel_rfl) (fun K hK => ?_)
      go_simp
      refine hK.out _ _ (.inr ⟨below_cell hba hSd.1, below_cell hba hSd.2.1, below_cell hba hSd.2.2.1, below_cell hba hSd.2.2.2.1, below_cell hba hSd.2.2.2.2⟩) ?_
      clear hK K
      try simp only [Act.put, List.setIfInBounds_toArray, List.set_cons_zero, List.set_cons_succ]
      refine wpAnyF_next (i := 22) rfl (by kernel_rfl) (fun K hK => ?_)
      refine step_append_lies _ (by rfl) _ _ _ (by rfl) wc.heap.size 91 i0 _ 3 24 Tryd.underlying88 hi hz0 hz1 hz2 rfl (by omega) _ k _ (by rfl) (hownd.alloc _)
            ⟨wd.heap.size, 0, none⟩ 1 1 [.int .i64 lp, .int .i64 lc, .int .i64 la] (by rfl) (by rfl) (World.news_of_block (cs := #[.int .i64 lp, .int .i64 lc, .int .i64 la]) (t := 91) (fr := (0, 0)) (heap_alloc_new wd _)) (by simp [Value.oneCell'])
            (by omega) (by unfold maxLen; omega) (by omega) (by simp; omega) (wd.heap.size + 1) (by simp) ?_
      intro g cap' w1 hown1 hgrow hat hgt
      obtain ⟨r2, r0, r1, rb, rz⟩ := HR.out _ hgrow
      have s6 : w1.cell? ⟨w.heap.size, 6, none⟩ = some (.slice (some ⟨b, o, none⟩) ls.length cap0) := r0.cell 6 rfl
      obtain ⟨v0, v1, v2⟩ := DW.out
      have s0 := below_cell rb v0
      have s1 := below_cell rb v1
      have s2 := below_cell rb v2
      have m6 : w1.cell? ⟨wb.heap.size, 6, none⟩ = some (.slice c k cap) := r2.cell 6 rfl
      have mf := r2.free 6
      clear v0 v1 v2
      refine hK.out _ _ (.inr ⟨m6, s6, s0, s1, s2⟩) ?_
      clear hK K
      try simp only [Act.put, List.setIfInBounds_toArray, List.set_cons_zero, List.set_cons_succ]
      refine wpAnyF_next (i := 23) rfl (by kernel_rfl) (fun K hK => ?_)
      go_simp
      refine hK.out _ _ (.inr ⟨m6, s6, s0, s1, s2⟩) ?_
      clear hK K
      try simp only [Act.put, List.setIfInBounds_toArray, List.set_cons_zero, List.set_cons_succ]
      refine wpAnyF_next (i := 24) rfl (by kernel_rfl) (fun K hK => ?_)
      go_simp
      refine hK.out _ _ (.inl rfl) ?_
      clear hK K
      try simp only [Act.put, List.setIfInBounds_toArray, List.set_cons_zero, List.set_cons_succ]
      refine wpAnyF_done (by kernel_rfl) ?_ _
      go_wp2_with fail
      have hq := hown1.kept (grown_setCell w1 wb.heap.size 6 (.slice (some ⟨g, 0, none⟩) (k + 1) cap')) (Or.inr (by have := r2.own_ne hown1 (by decide); simpa using this))
      rw [← hN.out] at hq
      go_roundw
      case rel => exact ⟨k + 1, by omega, by go_num, _, _, hq, r2.set 6 _, r0.far 6 _ n1, r1.far 6 _ n3, rb.setCell (p := ⟨wb.heap.size, 6, none⟩) (by have := HZ.out; simp; omega) _, by simp [World.setCell]; omega⟩
      case measure => simp [intOf]; omega
    · obtain rfl : k = ls.length := by omega
      obtain ⟨c', cap', hv, g0, _, _, g3, hrow⟩ := owned_rows (f := lnRow ls) (fun i => rfl) hown
      obtain ⟨rfl, _, rfl⟩ : c = c' ∧ ls.length = ls.length ∧ cap = cap' := by simpa using hv
      have hln := Lib.hid (rows_ln hrow)
      have l0 : wr.cell? ⟨wb.heap.size, 0, none⟩ = some (.int .i64 con) := h2.cell 0 rfl
      have l1 : wr.cell? ⟨wb.heap.size, 1, none⟩ = some (.int .i64 day) := h2.cell 1 rfl
      have l2 : wr.cell? ⟨wb.heap.size, 2, none⟩ = some (.int .i64 cur) := h2.cell 2 rfl
      have l3 : wr.cell? ⟨wb.heap.size, 3, none⟩ = some (.int .i64 seq) := h2.cell 3 rfl
      have l4 : wr.cell? ⟨wb.heap.size, 4, none⟩ = some (.int .i64 per) := h2.cell 4 rfl
      have l5 : wr.cell? ⟨wb.heap.size, 5, none⟩ = some (.int .i64 ref) := h2.cell 5 rfl
      have l6 : wr.cell? ⟨wb.heap.size, 6, none⟩ = some (.slice c ls.length cap) := h2.cell 6 rfl
      obtain ⟨⟨o0, o1, o2, o3, o4, o5, o6⟩, f0, f1, f2, f3, f4, f5, f6⟩ := OBox.of_blk h1
      have G3 := Lib.hid g3
      have HN := Lib.hid (h1.own_ne hown (by decide))
      have HOWN := Lib.hid hown
      clear hrow hv g3 h0 h1 h2 hown
      go_wp2_with fail
      refine bodyPost_ret (v := entV ⟨con, day, cur, seq, per, ref⟩ c ls.length cap) ?_ rfl ?_
      · simp [results, Tryd.results60, go_sem, o0, o1, o2, o3, o4, o5, o6, entV]
      · refine ⟨c, cap, rfl, g0, hln.out.grown (grown7 _ _ _ _ _ _ _ _ _) (fun x e q => ?_), below_set7 hbl (by have := HZ.out; omega) _ _ _ _ _ _ _, fun x e => ?_, (own_base HOWN.out (by have := HZ.out; omega)).kept (grown7 _ _ _ _ _ _ _ _ _) (Or.inr HN.out)⟩
        · subst e
          exact HN.out q.symm
        · have := (G3.out x e).1
          have := HZ.out
          omega
end Go.Proofs.YtpinhomalmknjaaDoor
