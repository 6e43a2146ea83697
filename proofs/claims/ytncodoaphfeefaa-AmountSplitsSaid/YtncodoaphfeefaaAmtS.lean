/- slices.symMergeCmpFunc of cuts: the long way, the middle in the left run. -/
import Derived.Test.YtncodoaphfeefaaAmtR
namespace Go.Proofs.Ytncodoaphfeefaa
open Go.RowKit Go.Shelf Go.Lib Go.Sort
set_option linter.unusedVariables false
set_option linter.unusedSimpArgs false

set_option maxHeartbeats 16000000 in
set_option maxRecDepth 1000000 in
theorem symm_long_gt (k : Nat) (hk2 : k = 2) (blk off cap a m b : Nat) (d0 d : Array Cut) (w0 w : World) (R : RowK encC k w0 blk off d0) (hs : d.size = d0.size) (S : SWK encC k w0 blk off d w) (hC : CmpLays Try.prog 36 #[] encC k cmpC blk off d.size w0) (ham : a + 1 < m) (hmb : m + 1 < b) (hb : b ≤ d.size) (hsz : d.size ≤ 1000) (h2 : Two a m b d) (hgt : (a + b) / 2 < m)
    (HRec : Hid (∀ (a' m' b' : Nat) (d' : Array Cut) (W : World), b' - a' < b - a → a' < m' → m' < b' → b' ≤ d.size → d'.size = d.size → SWK encC k w0 blk off d' W → Two a' m' b' d' → Calls Try.prog 47 #[.slice (some ⟨blk, off, none⟩) d.size cap, .int .i64 a', .int .i64 m', .int .i64 b', .func (.func 36) #[] #[]] W (MrgEnd k w0 blk off d' a' b'))) :
    Calls Try.prog 47 #[.slice (some ⟨blk, off, none⟩) d.size cap, .int .i64 a, .int .i64 m, .int .i64 b, .func (.func 36) #[] #[]] w (MrgEnd k w0 blk off d a b) := by
  have S0 : Aside (SWK encC k w0 blk off d w) := S
  have HC : Aside _ := hC
  have H2 := Lib.hid h2
  have HSz := Lib.hid hs
  have HRot : Hid (∀ (s e : Nat) (W : World), SWK encC k w0 blk off d W → s < m → m < e → e ≤ d.size → Calls Try.prog 49 #[.slice (some ⟨blk, off, none⟩) d.size cap, .int .i64 s, .int .i64 m, .int .i64 e, .func (.func 36) #[] #[]] W (RotEnd k w0 blk off d s m e)) := fun s e W hS h1 h2 h3 => rotate_ok k hk2 blk off cap s m e d0 d w0 W R hs hS h1 h2 h3 hsz _
  clear S hC h2 hs
  obtain ⟨mid, hmid⟩ : ∃ x, (a + b) / 2 = x := ⟨_, rfl⟩
  rw [hmid] at hgt
  obtain ⟨n, hn⟩ : ∃ x, mid + m = x := ⟨_, rfl⟩
  obtain ⟨s0, hs0⟩ : ∃ x, n - b = x := ⟨_, rfl⟩
  have HX : Hid (LongI a m b mid n s0 mid d.size) := ⟨ham, hmb, hb, hmid, hn, .inl ⟨hgt, hs0.symm, rfl⟩, hsz⟩
  have hgz : (mid : Int) < (m : Int) := by omega
  have t3 : IntKind.i64.wrap ((n : Int) - (b : Int)) = (s0 : Int) := by rw [← hs0]; exact w3_sub _ _ (by omega) (by omega)
  clear hmid hn hs0
  obtain ⟨u, v, ab, p, hN⟩ : ∃ u v ab p, LongN a m b mid n u v ab p := ⟨_, _, _, _, HX.out.nums⟩
  obtain ⟨t0, hu1, t1, hv1, t2, t4, t5, t6, t7, t8, hamid, hmidb, hmb', hb1, hp, t9, t10, t11⟩ := hN
  have HP := Lib.hid hp
  clear hp
  have aE : ∀ w, (isAgg 63).run Try.prog w = .ok true w := fun w => by kernel_rfl
  have zE : ∀ w, (Go.sizeOf 63).run Try.prog w = .ok k w := fun w => by rw [hk2]; kernel_rfl
  have tS : Try.prog.underlying 61 = some (TypeDesc.slice 63) := by kernel_rfl
  have mixed : Try.prog.follows Departure.mixedOrders = true := by kernel_rfl
  have eg : ∀ args w, (callFunc 36 args).run Try.prog w = .ok (.enter 36 args) w := fun args w => by kernel_rfl
  obtain ⟨T, hT⟩ : ∃ T : Nat, T = 63 := ⟨_, rfl⟩
  obtain ⟨TS, hTS⟩ : ∃ T : Nat, T = 61 := ⟨_, rfl⟩
  have r1 : ∀ s, Op.load 63 s = Op.load T s := fun s => by rw [hT]
  have r2 : ∀ s t, Op.store 63 s t = Op.store T s t := fun s t => by rw [hT]
  have r3 : ∀ s t, Op.indexAddr 61 s t = Op.indexAddr TS s t := fun s t => by rw [hTS]
  rw [← hT] at aE zE tS
  rw [← hTS] at tS
  clear hk2
  go_enter Try.func47, Try.ntmps47
  simp only [r1, r2, r3]
  clear r1 r2 r3 hT hTS
  go_wp2_with fail
  clear t0 hu1 t1 hv1 t2 t4 t5 t6 t7 t8 t9 t10
  go_loopw [20, 21, 23] (fun vi vj _ wr => ∃ i j : Nat, vi = .int .i64 i ∧ vj = .int .i64 j ∧ s0 ≤ i ∧ i ≤ j ∧ j ≤ mid ∧ Aside (SWK encC k w0 blk off d wr) ∧ Hid ((s0 < i → (d[n - i]!).2 ≤ (d[i - 1]!).2) ∧ (j < mid → (d[j]!).2 < (d[n - 1 - j]!).2))) (fun vi vj _ _ => (intOf vj).toNat - (intOf vi).toNat)
  case atStart => exact ⟨s0, mid, rfl, rfl, by omega, by have := HX.out.le; omega, by omega, S0, ⟨fun h => by omega, fun h => by omega⟩⟩
  case round =>
    clear S0
    obtain ⟨i, j, rfl, rfl, hmi, hij, hjb, S1, HB⟩ := hrel
    by_cases hlt : i < j
    · have hltz : (i : Int) < (j : Int) := by omega
      have q0 := HX.out.r0d
      have s2 : IntKind.i64.wrap ((i : Int) + (j : Int)) = ((i + j : Nat) : Int) := by rw [IntKind.wrap_i64]; omega
      obtain ⟨ij, hij2⟩ : ∃ x, i + j = x := ⟨_, rfl⟩
      rw [hij2] at s2
      have HIj := Lib.hid hij2
      have s3 : IntKind.u64.wrap (ij : Int) = (ij : Int) := u64_id ij (by have := HIj.out; omega)
      obtain ⟨h, hh⟩ : ∃ x, ij / 2 = x := ⟨_, rfl⟩
      have hlj : ij ≤ 2000 := by rw [← HIj.out]; omega
      have s4 := half_id ij h hlj hh
      have s6 := half_eq ij h hh
      obtain ⟨hh1, hh2⟩ := half_in hlt HIj.out hh
      clear hij2 hh
      obtain ⟨hz1, hz2⟩ := HX.out.at h (by omega) (by omega)
      rw [HP.out] at hz1 hz2
      obtain ⟨z, hzz⟩ : ∃ z, p - h = z := ⟨_, rfl⟩
      rw [hzz] at hz1 hz2
      have HZZ : Hid (n - 1 - h = z) := by rw [HP.out]; exact hzz
      clear hzz
      have hhs : h < d.size := by omega
      have ea24 : ((z : Nat) : Int).toNat = z := by omega
      have pa24 : (0 : Int) ≤ ((z : Nat) : Int) := by omega
      have ba24 : ((z : Nat) : Int) < (d.size : Int) := by omega
      have ra24 : IntKind.i64.wrap ((z : Nat) : Int) = ((z : Nat) : Int) := by rw [IntKind.wrap_i64]; omega
      have rc24 : IntKind.i64.wrap ((h : Nat) : Int) = ((h : Nat) : Int) := by rw [IntKind.wrap_i64]; omega
      have ec24 : ((h : Nat) : Int).toNat = h := by omega
      have pc24 : (0 : Int) ≤ ((h : Nat) : Int) := by omega
      have bc24 : ((h : Nat) : Int) < (d.size : Int) := by omega
      obtain ⟨x24, hx24⟩ : ∃ x, x = d[z]! := ⟨_, rfl⟩
      obtain ⟨y24, hy24⟩ : ∃ x, x = d[h]! := ⟨_, rfl⟩
      have l24a := S1.out.ld R HSz.out Try.prog z (by omega)
      have l24b := S1.out.ld R HSz.out Try.prog h (by omega)
      rw [← hx24] at l24a
      rw [← hy24] at l24b
      have hc24 := S1.out.cmp HC.out rfl x24 y24
      by_cases hv : (d[h]!).2 < (d[z]!).2
      · have hv24 : cmpC x24 y24 < 0 := by rw [hx24, hy24]; unfold cmpC; rw [if_pos hv]; decide
        have hd24 : decide (cmpC x24 y24 < 0) = true := decide_eq_true hv24
        have HV := Lib.hid hv
        clear hv
        clear hx24 hy24
        go_wp2_with fail
        go_quiet_grown (first | (go_at_fn 36; refine Calls.grown_of (hc24 _ _)))
        have S2 : Aside (SWK encC k w0 blk off d (grow (wr.drewN nq) osq)) := S1.out.grown nq osq
        clear l24a l24b hc24 S1
        generalize grow (wr.drewN nq) osq = w2 at S2 ⊢
        clear nq osq
        go_wp2_with fail
        go_roundw
        case rel => exact ⟨i, h, rfl, rfl, hmi, hh1, by omega, S2, HB.out.1, fun _ => by rw [HZZ.out]; exact HV.out⟩
        case measure => simp [intOf]; omega
      · have hv24 : ¬ cmpC x24 y24 < 0 := by rw [hx24, hy24]; unfold cmpC; rw [if_neg hv]; split <;> decide
        have hd24 : decide (cmpC x24 y24 < 0) = false := decide_eq_false hv24
        have s5 : IntKind.i64.wrap ((h : Int) + 1) = ((h + 1 : Nat) : Int) := by rw [IntKind.wrap_i64]; omega
        have HV := Lib.hid hv
        clear hv
        clear hx24 hy24
        go_wp2_with fail
        go_quiet_grown (first | (go_at_fn 36; refine Calls.grown_of (hc24 _ _)))
        have S2 : Aside (SWK encC k w0 blk off d (grow (wr.drewN nq) osq)) := S1.out.grown nq osq
        clear l24a l24b hc24 S1
        generalize grow (wr.drewN nq) osq = w2 at S2 ⊢
        clear nq osq
        go_wp2_with fail
        go_roundw
        case rel => exact ⟨h + 1, j, by go_num, rfl, by omega, by omega, hjb, S2, fun _ => by rw [show n - (h + 1) = z by rw [← HZZ.out]; omega, Nat.add_sub_cancel]; exact Nat.le_of_not_lt HV.out, HB.out.2⟩
        case measure => simp [intOf]; omega
    · obtain rfl : i = j := by omega
      obtain ⟨HCp, se, hai, him⟩ := HX.out.done hb H2.out i hmi hjb HB.out.1 HB.out.2
      have HCp := Lib.hid HCp
      obtain ⟨e, he⟩ : ∃ e, mid + m - i = e := ⟨_, rfl⟩
      have hc3 := HCp.out.h3
      have hc4 := HCp.out.h4
      have hc5 := HCp.out.h5
      rw [he] at se hc3 hc4
      have hcase : (i < m ∧ m < e) ∨ (i = m ∧ e = mid) ∨ (i < m ∧ m = e ∧ i = mid) := by omega
      have HTwo1 : Hid (∀ d1, RotOf d d1 i m e → Two a i mid d1) := fun d1 h => (halves (by omega) (by omega) H2.out HCp.out (by rw [he]; exact h)).one
      have HSz1 : Hid (∀ d1, RotOf d d1 i m e → d1.size = d.size) := fun d1 h => h.perm.1
      have HSz2 : Hid (∀ d1 d2, RotOf d d1 i m e → Mrg a mid d1 d2 → d2.size = d.size) := fun d1 d2 h h' => h'.perm.1.trans h.perm.1
      have HTwo2 : Hid (∀ d1 d2, RotOf d d1 i m e → Mrg a mid d1 d2 → Two mid e b d2) := fun d1 d2 h h' => by
        have := ((halves (by omega) (by omega) H2.out HCp.out (by rw [he]; exact h)).one_done (by rw [h.perm.1]; exact hb) (by omega) (by omega) him h').1
        rwa [he] at this
      have HFin : Hid (∀ d1 d2 d3 W, RotOf d d1 i m e → Mrg a mid d1 d2 → Mrg mid b d2 d3 → SWK encC k w0 blk off d3 W → MrgEnd k w0 blk off d a b (.returned (.tuple #[])) W) := fun d1 d2 d3 W h h' h'' hS => ⟨rfl, d3, fin_done hb (by omega) (by omega) H2.out HCp.out (by rw [he]; exact h) h' h'', hS⟩
      have hc6 : mid ≤ e := by omega
      clear HB he
      rcases hcase with hA | hA | hA
      · have phd1 : i < m := by omega
        have hd1 : decide ((i : Int) < (m : Int)) = true := decide_eq_true (by omega)
        have nhd1 : decide (i < m) = true := decide_eq_true phd1
        have phd2 : m < e := by omega
        have hd2 : decide ((m : Int) < (e : Int)) = true := decide_eq_true (by omega)
        have nhd2 : decide (m < e) = true := decide_eq_true phd2
        have HRo := Lib.hid (HRot.out i e wr S1.out hA.1 hA.2 (by omega))
        have HA := Lib.hid hA
        clear hA S1
        go_wp2_with fail
        with_reducible refine HRo.out.mono ?_
        rintro ev w5 ⟨rfl, d1, hr, hS5⟩
        have HR1 := Lib.hid hr
        have S5 : Aside (SWK encC k w0 blk off d1 w5) := hS5
        clear hr hS5 HRo hd1 hd2 phd1 phd2 nhd1 nhd2
        rcases three a i mid with hB | hB | hB
        · have phd3 : a < i := by have := HA.out; omega
          have hd3 : decide ((a : Int) < (i : Int)) = true := decide_eq_true (by omega)
          have nhd3 : decide (a < i) = true := decide_eq_true phd3
          have phd4 : i < mid := by have := HA.out; omega
          have hd4 : decide ((i : Int) < (mid : Int)) = true := decide_eq_true (by omega)
          have nhd4 : decide (i < mid) = true := decide_eq_true phd4
          have HRe := Lib.hid (HRec.out a i mid d1 w5 (by omega) (by omega) (by omega) (by omega) (HSz1.out _ HR1.out) S5.out (HTwo1.out _ HR1.out))
          have HB' := Lib.hid hB
          clear hB
          go_wp2_with fail
          with_reducible refine HRe.out.mono ?_
          rintro ev w6 ⟨rfl, d2, hm, hS6⟩
          have HM2 := Lib.hid hm
          have S6 : Aside (SWK encC k w0 blk off d2 w6) := hS6
          clear hm hS6 HRe hd3 hd4 phd3 phd4 nhd3 nhd4
          rcases three mid e b with hC3 | hC3 | hC3
          · have phd5 : mid < e := by (have := HA.out; omega)
            have hd5 : decide ((mid : Int) < (e : Int)) = true := decide_eq_true (by omega)
            have nhd5 : decide (mid < e) = true := decide_eq_true phd5
            have phd6 : e < b := by (have := HA.out; omega)
            have hd6 : decide ((e : Int) < (b : Int)) = true := decide_eq_true (by omega)
            have nhd6 : decide (e < b) = true := decide_eq_true phd6
            have HRe := Lib.hid (HRec.out mid e b d2 w6 (by omega) (by omega) (by omega) (by omega) (HSz2.out _ _ HR1.out HM2.out) S6.out (HTwo2.out _ _ HR1.out HM2.out))
            go_wp2_with fail
            with_reducible refine HRe.out.mono ?_
            rintro ev w7 ⟨rfl, d3, hm, hS7⟩
            have HM3 := Lib.hid hm
            have S7 : Aside (SWK encC k w0 blk off d3 w7) := hS7
            clear hm hS7 HRe hd5 hd6 phd5 phd6 nhd5 nhd6
            go_wp2_with fail
            go_end0
            exact HFin.out d1 d2 d3 _ HR1.out HM2.out HM3.out S7.out
          · have phd5 : ¬ mid < e := by (have := HA.out; omega)
            have hd5 : decide ((mid : Int) < (e : Int)) = false := decide_eq_false (by omega)
            have nhd5 : decide (mid < e) = false := decide_eq_false phd5
            have HM3 : Hid (Mrg mid b d2 d2) := mrg_id (HTwo2.out _ _ HR1.out HM2.out) (.inl (by omega)) (by omega) (by omega)
            go_wp2_with fail
            go_end0
            exact HFin.out d1 d2 d2 _ HR1.out HM2.out HM3.out S6.out
          · have phd5 : mid < e := by (have := HA.out; omega)
            have hd5 : decide ((mid : Int) < (e : Int)) = true := decide_eq_true (by omega)
            have nhd5 : decide (mid < e) = true := decide_eq_true phd5
            have phd6 : ¬ e < b := by (have := HA.out; omega)
            have hd6 : decide ((e : Int) < (b : Int)) = false := decide_eq_false (by omega)
            have nhd6 : decide (e < b) = false := decide_eq_false phd6
            have HM3 : Hid (Mrg mid b d2 d2) := mrg_id (HTwo2.out _ _ HR1.out HM2.out) (.inr (by omega)) (by omega) (by omega)
            go_wp2_with fail
            go_end0
            exact HFin.out d1 d2 d2 _ HR1.out HM2.out HM3.out S6.out
        · have phd3 : ¬ a < i := by (have := HA.out; omega)
          have hd3 : decide ((a : Int) < (i : Int)) = false := decide_eq_false (by omega)
          have nhd3 : decide (a < i) = false := decide_eq_false phd3
          have HM2 : Hid (Mrg a mid d1 d1) := mrg_id (HTwo1.out _ HR1.out) (.inl (by omega)) (by omega) (by omega)
          have HB' := Lib.hid hB
          clear hB
          rcases three mid e b with hC3 | hC3 | hC3
          · have phd5 : mid < e := by (have := HA.out; omega)
            have hd5 : decide ((mid : Int) < (e : Int)) = true := decide_eq_true (by omega)
            have nhd5 : decide (mid < e) = true := decide_eq_true phd5
            have phd6 : e < b := by (have := HA.out; omega)
            have hd6 : decide ((e : Int) < (b : Int)) = true := decide_eq_true (by omega)
            have nhd6 : decide (e < b) = true := decide_eq_true phd6
            have HRe := Lib.hid (HRec.out mid e b d1 w5 (by omega) (by omega) (by omega) (by omega) (HSz2.out _ _ HR1.out HM2.out) S5.out (HTwo2.out _ _ HR1.out HM2.out))
            go_wp2_with fail
            with_reducible refine HRe.out.mono ?_
            rintro ev w7 ⟨rfl, d3, hm, hS7⟩
            have HM3 := Lib.hid hm
            have S7 : Aside (SWK encC k w0 blk off d3 w7) := hS7
            clear hm hS7 HRe hd5 hd6 phd5 phd6 nhd5 nhd6
            go_wp2_with fail
            go_end0
            exact HFin.out d1 d1 d3 _ HR1.out HM2.out HM3.out S7.out
          · have phd5 : ¬ mid < e := by (have := HA.out; omega)
            have hd5 : decide ((mid : Int) < (e : Int)) = false := decide_eq_false (by omega)
            have nhd5 : decide (mid < e) = false := decide_eq_false phd5
            have HM3 : Hid (Mrg mid b d1 d1) := mrg_id (HTwo2.out _ _ HR1.out HM2.out) (.inl (by omega)) (by omega) (by omega)
            go_wp2_with fail
            go_end0
            exact HFin.out d1 d1 d1 _ HR1.out HM2.out HM3.out S5.out
          · have phd5 : mid < e := by (have := HA.out; omega)
            have hd5 : decide ((mid : Int) < (e : Int)) = true := decide_eq_true (by omega)
            have nhd5 : decide (mid < e) = true := decide_eq_true phd5
            have phd6 : ¬ e < b := by (have := HA.out; omega)
            have hd6 : decide ((e : Int) < (b : Int)) = false := decide_eq_false (by omega)
            have nhd6 : decide (e < b) = false := decide_eq_false phd6
            have HM3 : Hid (Mrg mid b d1 d1) := mrg_id (HTwo2.out _ _ HR1.out HM2.out) (.inr (by omega)) (by omega) (by omega)
            go_wp2_with fail
            go_end0
            exact HFin.out d1 d1 d1 _ HR1.out HM2.out HM3.out S5.out
        · have phd3 : a < i := by (have := HA.out; omega)
          have hd3 : decide ((a : Int) < (i : Int)) = true := decide_eq_true (by omega)
          have nhd3 : decide (a < i) = true := decide_eq_true phd3
          have phd4 : ¬ i < mid := by (have := HA.out; omega)
          have hd4 : decide ((i : Int) < (mid : Int)) = false := decide_eq_false (by omega)
          have nhd4 : decide (i < mid) = false := decide_eq_false phd4
          have HM2 : Hid (Mrg a mid d1 d1) := mrg_id (HTwo1.out _ HR1.out) (.inr (by omega)) (by omega) (by omega)
          have HB' := Lib.hid hB
          clear hB
          rcases three mid e b with hC3 | hC3 | hC3
          · have phd5 : mid < e := by (have := HA.out; omega)
            have hd5 : decide ((mid : Int) < (e : Int)) = true := decide_eq_true (by omega)
            have nhd5 : decide (mid < e) = true := decide_eq_true phd5
            have phd6 : e < b := by (have := HA.out; omega)
            have hd6 : decide ((e : Int) < (b : Int)) = true := decide_eq_true (by omega)
            have nhd6 : decide (e < b) = true := decide_eq_true phd6
            have HRe := Lib.hid (HRec.out mid e b d1 w5 (by omega) (by omega) (by omega) (by omega) (HSz2.out _ _ HR1.out HM2.out) S5.out (HTwo2.out _ _ HR1.out HM2.out))
            go_wp2_with fail
            with_reducible refine HRe.out.mono ?_
            rintro ev w7 ⟨rfl, d3, hm, hS7⟩
            have HM3 := Lib.hid hm
            have S7 : Aside (SWK encC k w0 blk off d3 w7) := hS7
            clear hm hS7 HRe hd5 hd6 phd5 phd6 nhd5 nhd6
            go_wp2_with fail
            go_end0
            exact HFin.out d1 d1 d3 _ HR1.out HM2.out HM3.out S7.out
          · have phd5 : ¬ mid < e := by (have := HA.out; omega)
            have hd5 : decide ((mid : Int) < (e : Int)) = false := decide_eq_false (by omega)
            have nhd5 : decide (mid < e) = false := decide_eq_false phd5
            have HM3 : Hid (Mrg mid b d1 d1) := mrg_id (HTwo2.out _ _ HR1.out HM2.out) (.inl (by omega)) (by omega) (by omega)
            go_wp2_with fail
            go_end0
            exact HFin.out d1 d1 d1 _ HR1.out HM2.out HM3.out S5.out
          · have phd5 : mid < e := by (have := HA.out; omega)
            have hd5 : decide ((mid : Int) < (e : Int)) = true := decide_eq_true (by omega)
            have nhd5 : decide (mid < e) = true := decide_eq_true phd5
            have phd6 : ¬ e < b := by (have := HA.out; omega)
            have hd6 : decide ((e : Int) < (b : Int)) = false := decide_eq_false (by omega)
            have nhd6 : decide (e < b) = false := decide_eq_false phd6
            have HM3 : Hid (Mrg mid b d1 d1) := mrg_id (HTwo2.out _ _ HR1.out HM2.out) (.inr (by omega)) (by omega) (by omega)
            go_wp2_with fail
            go_end0
            exact HFin.out d1 d1 d1 _ HR1.out HM2.out HM3.out S5.out
      · have phd1 : ¬ i < m := by omega
        have hd1 : decide ((i : Int) < (m : Int)) = false := decide_eq_false (by omega)
        have nhd1 : decide (i < m) = false := decide_eq_false phd1
        have HR1 : Hid (RotOf d d i m e) := rot_id (.inl hA.1) him hc3
        have HA := Lib.hid hA
        clear hA
        by_cases hB : i < mid
        · have phd3 : a < i := by have := HA.out; omega
          have hd3 : decide ((a : Int) < (i : Int)) = true := decide_eq_true (by omega)
          have nhd3 : decide (a < i) = true := decide_eq_true phd3
          have phd4 : i < mid := by have := HA.out; omega
          have hd4 : decide ((i : Int) < (mid : Int)) = true := decide_eq_true (by omega)
          have nhd4 : decide (i < mid) = true := decide_eq_true phd4
          have HRe := Lib.hid (HRec.out a i mid d wr (by omega) (by omega) (by omega) (by omega) (HSz1.out _ HR1.out) S1.out (HTwo1.out _ HR1.out))
          have HB' := Lib.hid hB
          clear hB
          go_wp2_with fail
          with_reducible refine HRe.out.mono ?_
          rintro ev w6 ⟨rfl, d2, hm, hS6⟩
          have HM2 := Lib.hid hm
          have S6 : Aside (SWK encC k w0 blk off d2 w6) := hS6
          clear hm hS6 HRe hd3 hd4 phd3 phd4 nhd3 nhd4
          have phd5 : ¬ mid < e := by (have := HA.out; omega)
          have hd5 : decide ((mid : Int) < (e : Int)) = false := decide_eq_false (by omega)
          have nhd5 : decide (mid < e) = false := decide_eq_false phd5
          have HM3 : Hid (Mrg mid b d2 d2) := mrg_id (HTwo2.out _ _ HR1.out HM2.out) (.inl (by omega)) (by omega) (by omega)
          go_wp2_with fail
          go_end0
          exact HFin.out d d2 d2 _ HR1.out HM2.out HM3.out S6.out
        · have phd3 : a < i := by (have := HA.out; omega)
          have hd3 : decide ((a : Int) < (i : Int)) = true := decide_eq_true (by omega)
          have nhd3 : decide (a < i) = true := decide_eq_true phd3
          have phd4 : ¬ i < mid := by (have := HA.out; omega)
          have hd4 : decide ((i : Int) < (mid : Int)) = false := decide_eq_false (by omega)
          have nhd4 : decide (i < mid) = false := decide_eq_false phd4
          have HM2 : Hid (Mrg a mid d d) := mrg_id (HTwo1.out _ HR1.out) (.inr (by omega)) (by omega) (by omega)
          have HB' := Lib.hid hB
          clear hB
          have phd5 : ¬ mid < e := by (have := HA.out; omega)
          have hd5 : decide ((mid : Int) < (e : Int)) = false := decide_eq_false (by omega)
          have nhd5 : decide (mid < e) = false := decide_eq_false phd5
          have HM3 : Hid (Mrg mid b d d) := mrg_id (HTwo2.out _ _ HR1.out HM2.out) (.inl (by omega)) (by omega) (by omega)
          go_wp2_with fail
          go_end0
          exact HFin.out d d d _ HR1.out HM2.out HM3.out S1.out
      · have phd1 : i < m := by omega
        have hd1 : decide ((i : Int) < (m : Int)) = true := decide_eq_true (by omega)
        have nhd1 : decide (i < m) = true := decide_eq_true phd1
        have phd2 : ¬ m < e := by omega
        have hd2 : decide ((m : Int) < (e : Int)) = false := decide_eq_false (by omega)
        have nhd2 : decide (m < e) = false := decide_eq_false phd2
        have HR1 : Hid (RotOf d d i m e) := rot_id (.inr hA.2.1) him hc3
        have HA := Lib.hid hA
        clear hA
        by_cases hB : a < i
        · have phd3 : a < i := by (have := HA.out; omega)
          have hd3 : decide ((a : Int) < (i : Int)) = true := decide_eq_true (by omega)
          have nhd3 : decide (a < i) = true := decide_eq_true phd3
          have phd4 : ¬ i < mid := by (have := HA.out; omega)
          have hd4 : decide ((i : Int) < (mid : Int)) = false := decide_eq_false (by omega)
          have nhd4 : decide (i < mid) = false := decide_eq_false phd4
          have HM2 : Hid (Mrg a mid d d) := mrg_id (HTwo1.out _ HR1.out) (.inr (by omega)) (by omega) (by omega)
          have HB' := Lib.hid hB
          clear hB
          have phd5 : mid < e := by (have := HA.out; omega)
          have hd5 : decide ((mid : Int) < (e : Int)) = true := decide_eq_true (by omega)
          have nhd5 : decide (mid < e) = true := decide_eq_true phd5
          have phd6 : e < b := by (have := HA.out; omega)
          have hd6 : decide ((e : Int) < (b : Int)) = true := decide_eq_true (by omega)
          have nhd6 : decide (e < b) = true := decide_eq_true phd6
          have HRe := Lib.hid (HRec.out mid e b d wr (by omega) (by omega) (by omega) (by omega) (HSz2.out _ _ HR1.out HM2.out) S1.out (HTwo2.out _ _ HR1.out HM2.out))
          go_wp2_with fail
          with_reducible refine HRe.out.mono ?_
          rintro ev w7 ⟨rfl, d3, hm, hS7⟩
          have HM3 := Lib.hid hm
          have S7 : Aside (SWK encC k w0 blk off d3 w7) := hS7
          clear hm hS7 HRe hd5 hd6 phd5 phd6 nhd5 nhd6
          go_wp2_with fail
          go_end0
          exact HFin.out d d d3 _ HR1.out HM2.out HM3.out S7.out
        · have phd3 : ¬ a < i := by (have := HA.out; omega)
          have hd3 : decide ((a : Int) < (i : Int)) = false := decide_eq_false (by omega)
          have nhd3 : decide (a < i) = false := decide_eq_false phd3
          have HM2 : Hid (Mrg a mid d d) := mrg_id (HTwo1.out _ HR1.out) (.inl (by omega)) (by omega) (by omega)
          have HB' := Lib.hid hB
          clear hB
          have phd5 : mid < e := by (have := HA.out; omega)
          have hd5 : decide ((mid : Int) < (e : Int)) = true := decide_eq_true (by omega)
          have nhd5 : decide (mid < e) = true := decide_eq_true phd5
          have phd6 : e < b := by (have := HA.out; omega)
          have hd6 : decide ((e : Int) < (b : Int)) = true := decide_eq_true (by omega)
          have nhd6 : decide (e < b) = true := decide_eq_true phd6
          have HRe := Lib.hid (HRec.out mid e b d wr (by omega) (by omega) (by omega) (by omega) (HSz2.out _ _ HR1.out HM2.out) S1.out (HTwo2.out _ _ HR1.out HM2.out))
          go_wp2_with fail
          with_reducible refine HRe.out.mono ?_
          rintro ev w7 ⟨rfl, d3, hm, hS7⟩
          have HM3 := Lib.hid hm
          have S7 : Aside (SWK encC k w0 blk off d3 w7) := hS7
          clear hm hS7 HRe hd5 hd6 phd5 phd6 nhd5 nhd6
          go_wp2_with fail
          go_end0
          exact HFin.out d d d3 _ HR1.out HM2.out HM3.out S7.out

end Go.Proofs.Ytncodoaphfeefaa
