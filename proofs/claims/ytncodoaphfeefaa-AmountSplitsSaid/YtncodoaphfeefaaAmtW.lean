/- slices.stableCmpFunc, slices.SortStableFunc of up to 64 cuts. -/
import Derived.Test.YtncodoaphfeefaaAmtV
namespace Go.Proofs.Ytncodoaphfeefaa
open Go.RowKit Go.Shelf Go.Lib Go.Sort
set_option linter.unusedVariables false
set_option linter.unusedSimpArgs false

theorem b20 {s : Nat} (h : s = 20 ∨ s = 40 ∨ s = 80) : s ≤ 80 := by omega
theorem le_dec (a b : Nat) (h : a ≤ b) : decide ((a : Int) ≤ (b : Int)) = true := decide_eq_true (by omega)
theorem nle_dec (a b : Nat) (h : ¬ a ≤ b) : decide ((a : Int) ≤ (b : Int)) = false := decide_eq_false (by omega)
theorem lt_dec (a b : Nat) (h : a < b) : decide ((a : Int) < (b : Int)) = true := decide_eq_true (by omega)
theorem nlt_dec (a b : Nat) (h : ¬ a < b) : decide ((a : Int) < (b : Int)) = false := decide_eq_false (by omega)
theorem w3' (a b c : Nat) (h : a + b = c) (k : c ≤ 3000) : IntKind.i64.wrap ((a : Int) + (b : Int)) = (c : Int) := by
  rw [w3_add a b (by omega), h]
theorem w3_mul2 (s z : Nat) (h : 2 * s = z) (k : z ≤ 3000) : IntKind.i64.wrap (2 * (s : Int)) = (z : Int) ∧ IntKind.i64.wrap ((s : Int) * 2) = (z : Int) := by
  have e1 : 2 * (s : Int) = ((z : Nat) : Int) := by omega
  have e2 : (s : Int) * 2 = ((z : Nat) : Int) := by omega
  rw [e1, e2]
  exact ⟨w3 z k, w3 z k⟩

set_option maxHeartbeats 8000000 in
set_option maxRecDepth 1000000 in
theorem stable_ok (n : Nat) (h20 : 20 ≤ n) (h64 : n ≤ 64) (blk cap : Nat) (d : Array Cut) (w : World) (hs : d.size = n) (hA : Asc d n) (hH : HoldsK encC 2 w blk 0 d) (hblk : blk < w.heap.size) :
    Calls Try.prog 43 #[.slice (some ⟨blk, 0, none⟩) n cap, .int .i64 (n : Int), .func (.func 36) #[] #[]] w (SortEnd blk d w) := by
  have R : RowK encC 2 w blk 0 d := ⟨fun _ => rfl, fun x v hv => by simp [encC] at hv; rcases hv with rfl | rfl <;> rfl, hH, hblk⟩
  have HIns : Hid (∀ (cur : Array Cut) (W : World) (a b : Nat), SWK encC 2 w blk 0 cur W → cur.size = n → a ≤ b → b ≤ n → Calls Try.prog 46 #[.slice (some ⟨blk, 0, none⟩) n cap, .int .i64 a, .int .i64 b, .func (.func 36) #[] #[]] W fun e w' => e = .returned (.tuple #[]) ∧ SWK encC 2 w blk 0 (Sort.insertionSort (ltOf cmpC) cur a b) w') := fun cur W a b hS hz h1 h2 => by
    have c := insert_ok blk cap a b cur W (hS.holds hblk hH (hz.trans hs.symm)) (hS.lt hblk) h1 (by omega) (by omega)
    rw [hz] at c
    refine c.mono ?_
    rintro e w' ⟨rfl, m, os, rfl⟩
    exact ⟨rfl, hS.on hblk _ _ _ ((insertionSort_holds (lt := ltOf cmpC) swoC cur a b h1 (by omega)).1.1)⟩
  have HSym : Hid (∀ (cur : Array Cut) (W : World) (a m b : Nat), SWK encC 2 w blk 0 cur W → cur.size = n → a < m → m < b → b ≤ n → Two a m b cur → Calls Try.prog 47 #[.slice (some ⟨blk, 0, none⟩) n cap, .int .i64 a, .int .i64 m, .int .i64 b, .func (.func 36) #[] #[]] W (MrgEnd 2 w blk 0 cur a b)) := fun cur W a m b hS hz h1 h2 h3 h4 => by
    have c := symm_ok 2 rfl blk 0 cap d w R (cmpLays_ok blk 0 d.size w) (by omega) (b - a) a m b cur W (Nat.le_refl _) h1 h2 (by omega) (by omega) hS h4
    rwa [hz] at c
  have HA := Lib.hid hA
  have HB0 : Hid (Blk20 d d n 0) := Blk20.start hs
  have S0 : Aside (SWK encC 2 w blk 0 d w) := SWK.start hH
  have HD := Lib.hid hs
  clear R hA hH hblk hs
  go_enter Try.func43, Try.ntmps43
  go_wp2_with fail
  go_loopw [7, 8] (fun va vb wr => ∃ (a b : Nat) (cur : Array Cut), va = .int .i64 a ∧ vb = .int .i64 b ∧ b = a + 20 ∧ a ≤ n ∧ Aside (SWK encC 2 w blk 0 cur wr) ∧ Hid (Blk20 d cur n a)) (fun va _ _ => n - (intOf va).toNat)
  case atStart => exact ⟨0, 20, d, rfl, rfl, rfl, by omega, S0, HB0⟩
  case round =>
    clear S0 HB0
    obtain ⟨a, b, cur, rfl, rfl, hba, han, S1, HB⟩ := hrel
    by_cases hle : b ≤ n
    · have hd := le_dec b n hle
      have HIn := Lib.hid (HIns.out cur wr a b S1.out HB.out.sz (by omega) hle)
      have HB2 := Lib.hid (HB.out.step HA.out hba hle)
      obtain ⟨c, hc⟩ : ∃ c, b + 20 = c := ⟨_, rfl⟩
      have hw : IntKind.i64.wrap ((b : Int) + 20) = (c : Int) := w3' b 20 c hc (by omega)
      have HBA := Lib.hid (And.intro hba hc)
      clear hba hc S1 HB
      go_wp2_with fail
      with_reducible refine HIn.out.mono ?_
      rintro ev w1 ⟨rfl, hS1⟩
      have S2 : Aside (SWK encC 2 w blk 0 _ w1) := hS1
      clear hS1 HIn
      go_wp2_with fail
      go_roundw
      case rel => exact ⟨b, c, _, rfl, rfl, HBA.out.2.symm, hle, S2, HB2⟩
      case measure => have := HBA.out.1; simp [intOf]; omega
    · have hd := nle_dec b n hle
      have HIn := Lib.hid (HIns.out cur wr a n S1.out HB.out.sz han (Nat.le_refl n))
      have HR := Lib.hid (HB.out.last HA.out han (by omega))
      clear hba S1 HB
      go_wp2_with fail
      with_reducible refine HIn.out.mono ?_
      rintro ev w1 ⟨rfl, hS1⟩
      have S2 : Aside (SWK encC 2 w blk 0 _ w1) := hS1
      clear hS1 HIn
      generalize Sort.insertionSort (ltOf cmpC) cur a n = cur2 at S2 HR
      clear hd hle han
      go_wp2_with fail
      go_loopw [6, 7, 8, 9] (fun vs _ _ _ wr => ∃ (s : Nat) (c : Array Cut), vs = .int .i64 s ∧ (s = 20 ∨ s = 40 ∨ s = 80) ∧ Aside (SWK encC 2 w blk 0 c wr) ∧ Hid (Runs s d c n)) (fun vs _ _ _ _ => 100 - (intOf vs).toNat)
      case atStart => exact ⟨20, cur2, rfl, .inl rfl, S2, HR⟩
      case round =>
        clear S2 HR
        obtain ⟨s, c2, rfl, hsc, S3, HR⟩ := hrel
        by_cases hlt : s < n
        · have hd := lt_dec s n hlt
          have hs2 : s = 20 ∨ s = 40 := by omega
          have HSc := Lib.hid hs2
          have HSc3 := Lib.hid hsc
          have HH := Lib.hid HR.out.half
          have hsl : s ≤ 80 := b20 hsc
          have hsp : 20 ≤ s := by omega
          obtain ⟨z, hz⟩ : ∃ z, 2 * s = z := ⟨_, rfl⟩
          obtain ⟨m1, m2⟩ := w3_mul2 s z hz (by omega)
          have HZ := Lib.hid hz
          clear hz hs2 hsc HR
          go_wp2_with fail
          go_loopw [7, 8] (fun va vb wr => ∃ (a b : Nat) (cur : Array Cut), va = .int .i64 a ∧ vb = .int .i64 b ∧ Hid (b = a + z) ∧ a ≤ n ∧ Aside (SWK encC 2 w blk 0 cur wr) ∧ Hid (Half s d cur n a)) (fun va _ _ => n - (intOf va).toNat)
          case atStart => exact ⟨0, z, c2, rfl, rfl, (Nat.zero_add z).symm, by omega, S3, HH⟩
          case round =>
            clear S3 HH
            obtain ⟨a, b, cur, rfl, rfl, HBA, han, S4, HH⟩ := hrel
            obtain ⟨m, hm⟩ : ∃ m, a + s = m := ⟨_, rfl⟩
            have hwm := w3' a s m hm (by omega)
            have HM := Lib.hid hm
            clear hm
            by_cases hle : b ≤ n
            · have hd2 := le_dec b n hle
              have q1 : a < m := by have := HM.out; omega
              have q2 : m < b := by have := HM.out; have := HBA.out; have := HZ.out; omega
              have HSy := Lib.hid (HSym.out cur wr a m b S4.out HH.out.sz q1 q2 hle (HH.out.two HSc.out HA.out (by have := HBA.out; have := HZ.out; omega) HM.out (by omega)))
              obtain ⟨c, hc⟩ : ∃ c, b + z = c := ⟨_, rfl⟩
              have hw := w3' b z c hc (by have := HZ.out; omega)
              have HC := Lib.hid hc
              clear hc S4
              go_wp2_with fail
              with_reducible refine HSy.out.mono ?_
              rintro ev w1 ⟨rfl, cur3, hM3, hS3⟩
              have S5 : Aside (SWK encC 2 w blk 0 cur3 w1) := hS3
              have HH2 := Lib.hid (HH.out.step HSc.out (by have := HBA.out; have := HZ.out; omega) hle hM3)
              clear hS3 hM3 HSy HH
              go_wp2_with fail
              go_roundw
              case rel => exact ⟨b, c, cur3, rfl, rfl, HC.out.symm, hle, S5, HH2⟩
              case measure => have := HBA.out; have := HZ.out; simp [intOf]; omega
            · have hd2 := nle_dec b n hle
              by_cases hmn : m < n
              · have hd3 := lt_dec m n hmn
                have q1 : a < m := by have := HM.out; omega
                have HSy := Lib.hid (HSym.out cur wr a m n S4.out HH.out.sz q1 hmn (Nat.le_refl n) (HH.out.two HSc.out HA.out (by have := HBA.out; have := HZ.out; omega) HM.out hmn))
                clear S4
                go_wp2_with fail
                with_reducible refine HSy.out.mono ?_
                rintro ev w1 ⟨rfl, cur3, hM3, hS3⟩
                have S5 : Aside (SWK encC 2 w blk 0 cur3 w1) := hS3
                have HR2 : Hid (Runs z d cur3 n) := by
                  have := HH.out.last HSc.out (by rw [HM.out]; exact hmn) (by have := HBA.out; have := HZ.out; omega) hM3
                  rwa [HZ.out] at this
                clear hS3 hM3 HSy HH
                go_wp2_with fail
                go_roundw
                case rel => exact ⟨z, cur3, rfl, by have := HSc.out; have := HZ.out; omega, S5, HR2⟩
                case measure => have := HZ.out; simp [intOf]; omega
              · have hd3 := nlt_dec m n hmn
                have HR2 : Hid (Runs z d cur n) := by
                  have := HH.out.last_no HSc.out (by have := HM.out; omega)
                  rwa [HZ.out] at this
                clear HH
                go_wp2_with fail
                go_roundw
                case rel => exact ⟨z, cur, rfl, by have := HSc.out; have := HZ.out; omega, S4, HR2⟩
                case measure => have := HZ.out; simp [intOf]; omega
        · have hd := nlt_dec s n hlt
          have HFin : Hid (SortEnd blk d w (.returned (.tuple #[])) wr) := by
            obtain ⟨m, os, hw⟩ := S3.out
            exact ⟨rfl, c2, m, os, HR.out.sorted HD.out (by omega) (by omega), hw⟩
          clear S3 HR hsc
          go_wp2_with fail
          go_end0
          exact HFin.out

theorem stable_all (n : Nat) (hn : n ≤ 64) : StableAt n := by
  rcases Nat.lt_or_ge n 20 with h | h
  · exact stable_few n h
  · intro blk cap d w hs h0 hH hblk
    have HS := Lib.hid (stable_ok n h hn blk cap d w hs (fun x y h1 h2 => h0 x y h1 (by omega)) hH hblk)
    clear hs h0 hH hblk hn h
    go_enter Try.func35, Try.ntmps35
    go_wp2_with fail
    with_reducible refine HS.out.mono ?_
    rintro e w1 ⟨rfl, d'', m, os, h1, rfl⟩
    have H1 := Lib.hid h1
    clear h1
    go_wp2_with fail
    go_end0
    exact ⟨rfl, d'', m, os, H1.out, rfl⟩

end Go.Proofs.Ytncodoaphfeefaa
