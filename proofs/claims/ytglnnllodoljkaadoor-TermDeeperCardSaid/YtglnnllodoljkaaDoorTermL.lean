/- slices.ContainsFunc over nodes, with Of's test. -/
import Derived.Test.YtglnnllodoljkaaDoorTermI
namespace Go.Proofs.YtglnnllodoljkaaDoor
open Go.RowKit
set_option linter.unusedVariables false
set_option linter.unusedSimpArgs false

/-- A node's numbers are numbers of the machine. -/
def Nd.In (n : Nd) : Prop := -9223372036854775808 ≤ n.num ∧ n.num ≤ 9223372036854775807 ∧ -9223372036854775808 ≤ n.den ∧ n.den ≤ 9223372036854775807
def NdsIn (ns : List Nd) : Prop := ∀ i, i < ns.length → (Nd.at ns i).In
/-- The first node whose fields may not be. -/
def badV (ns : List Nd) : Nat → Nat → Int
  | 0, _ => -1
  | m + 1, i => if fieldsV (Nd.at ns i) = true then badV ns m (i + 1) else i
theorem badV_spec (ns : List Nd) : ∀ m i, (badV ns m i < 0 ↔ ∀ j, i ≤ j → j < i + m → fieldsV (Nd.at ns j) = true)
  | 0, i => by simp [badV]; omega
  | m + 1, i => by
    rw [badV]
    by_cases h : fieldsV (Nd.at ns i) = true
    · rw [if_pos h, badV_spec ns m (i + 1)]
      constructor
      · intro H j h1 h2
        rcases Nat.lt_or_ge i j with h3 | h3
        · exact H j h3 (by omega)
        · rw [show j = i from by omega]; exact h
      · intro H j h1 h2
        exact H j (by omega) (by omega)
    · rw [if_neg h]
      constructor
      · intro H; omega
      · intro H; exact absurd (H i (Nat.le_refl _) (by omega)) h

set_option maxHeartbeats 1000000 in
set_option maxRecDepth 100000 in
theorem index_ok (a : Option Addr) (cap : Nat) (ns : List Nd) (hl : ns.length ≤ 1000000) (hI : NdsIn ns) (w : World) (hN : NdsAt w a ns) :
    Calls Tryd.prog 45 #[.slice a ns.length cap, .func (.func 36) #[] #[]] w fun e w' => e = .returned (.int .i64 (badV ns ns.length 0)) ∧ Below w.heap.size w w' := by
  have HN := Lib.hid hN
  have HI := Lib.hid hI
  obtain ⟨B, hB⟩ : ∃ B, badV ns ns.length 0 = B := ⟨_, rfl⟩
  rw [hB]
  have HB := Lib.hid hB
  clear hN hI hB
  go_enter Tryd.func45, Tryd.ntmps45
  go_wp2_with fail
  go_loopw [8] (fun c wr => ∃ k : Nat, k ≤ ns.length ∧ c = .int .i64 (k : Int) ∧ Hid (badV ns (ns.length - k) k = B) ∧ Below w.heap.size w wr) (fun c _ => ns.length - (intOf c).toNat)
  case atStart => exact ⟨0, by omega, by simp, HB.out, Below.refl _ _⟩
  case round =>
    obtain ⟨k, hk, rfl, HK, hbl⟩ := hrel
    have hw := hbl.size
    by_cases hlt : k < ns.length
    · have hlt' : (k : Int) < (ns.length : Int) := by omega
      obtain ⟨b, o, rfl, hc⟩ := (HN.out.after hbl) (by omega)
      have c0 : wr.cell? ⟨b, o + k * 5, none⟩ = some (.int .i64 (Nd.at ns k).op) := hc k hlt 0 _ rfl
      have c1 : wr.cell? ⟨b, o + k * 5 + 1, none⟩ = some (.int .i64 (Nd.at ns k).a) := hc k hlt 1 _ rfl
      have c2 : wr.cell? ⟨b, o + k * 5 + 2, none⟩ = some (.int .i64 (Nd.at ns k).b) := hc k hlt 2 _ rfl
      have c3 : wr.cell? ⟨b, o + k * 5 + 3, none⟩ = some (.int .i64 (Nd.at ns k).num) := hc k hlt 3 _ rfl
      have c4 : wr.cell? ⟨b, o + k * 5 + 4, none⟩ = some (.int .i64 (Nd.at ns k).den) := hc k hlt 4 _ rfl
      clear hc
      obtain ⟨i1, i2, i3, i4⟩ := HI.out k hlt
      have HF := Lib.hid (unfit_ok (Nd.at ns k) i1 i2 i3 i4)
      unfold Nd.val at HF
      have HR : Hid (B = if fieldsV (Nd.at ns k) = true then badV ns (ns.length - (k + 1)) (k + 1) else (k : Int)) := by
        show B = _
        rw [← HK.out, show ns.length - k = (ns.length - (k + 1)) + 1 from by omega, badV]
      have HL := Lib.hid hlt
      clear i1 i2 i3 i4 hlt
      go_wp2_with fail
      with_reducible refine (HF.out _).mono ?_
      rintro e w3 ⟨rfl, hb3⟩
      have hbl3 := hbl.trans (hb3.mono hw)
      cases hf : fieldsV (Nd.at ns k) with
      | false =>
        rw [hf] at HR
        go_wp2_with fail
        go_ret
        exact ⟨by rw [HR.out]; rfl, hbl3⟩
      | true =>
        rw [hf] at HR
        have hwk : IntKind.i64.wrap ((k : Int) + 1) = (k : Int) + 1 := IntWalk.i64_in _ (by omega)
        go_wp2_with fail
        go_roundw
        case rel => exact ⟨k + 1, by have := HL.out; omega, by go_num, by rw [HR.out]; rfl, hbl3⟩
        case measure => have := HL.out; simp [intOf]; omega
    · obtain rfl : k = ns.length := by omega
      go_wp2_with fail
      go_ret
      have := HK.out
      rw [Nat.sub_self] at this
      exact ⟨by rw [← this]; rfl, hbl⟩

set_option maxHeartbeats 1000000 in
set_option maxRecDepth 100000 in
theorem contains_ok (a : Option Addr) (cap : Nat) (ns : List Nd) (hl : ns.length ≤ 1000000) (hI : NdsIn ns) (w : World) (hN : NdsAt w a ns) :
    Calls Tryd.prog 35 #[.slice a ns.length cap, .func (.func 36) #[] #[]] w fun e w' => e = .returned (.bool (decide (0 ≤ badV ns ns.length 0))) ∧ Below w.heap.size w w' := by
  have HX := Lib.hid (index_ok a cap ns hl hI w hN)
  clear hN hI
  obtain ⟨B, hB⟩ : ∃ B, badV ns ns.length 0 = B := ⟨_, rfl⟩
  rw [hB] at HX ⊢
  clear hB
  go_enter Tryd.func35, Tryd.ntmps35
  go_wp2_with fail
  with_reducible refine HX.out.mono ?_
  rintro e w3 ⟨rfl, hb3⟩
  go_wp2_with fail
  go_ret
  exact ⟨rfl, hb3⟩

end Go.Proofs.YtglnnllodoljkaaDoor
