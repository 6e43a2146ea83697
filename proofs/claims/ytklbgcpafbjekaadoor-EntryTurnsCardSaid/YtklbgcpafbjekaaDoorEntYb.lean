/- The statement EntryTurns: plain laws. -/
import Derived.Test.YtklbgcpafbjekaaDoorEntYa
namespace Go.Proofs.YtklbgcpafbjekaaDoor
open Go.RowKit
set_option linter.unusedVariables false
set_option linter.unusedSimpArgs false

theorem flow_facts {con day cur am h v : Int} (e : flowErr con day cur am h v = 0) : tagOk con day cur = true ∧ (0 ≤ h ∧ h < 16) ∧ (0 ≤ v ∧ v < 16) ∧ h ≠ v ∧ am ≠ 0 ∧ am ≠ -9223372036854775808 := by
  unfold flowErr at e
  by_cases h1 : tagOk con day cur = true
  · rw [if_pos h1] at e
    by_cases h2 : belowB h 16 = true
    · rw [if_pos h2] at e
      by_cases h3 : belowB v 16 = true
      · rw [if_pos h3] at e
        by_cases h4 : h = v
        · rw [if_pos h4] at e; cases e
        · rw [if_neg h4] at e
          by_cases h5 : am = 0
          · rw [if_pos h5] at e; cases e
          · rw [if_neg h5] at e
            by_cases h6 : am = -9223372036854775808
            · rw [if_pos h6] at e; cases e
            · unfold belowB at h2 h3
              exact ⟨h1, of_decide_eq_true h2, of_decide_eq_true h3, h4, h5, h6⟩
      · rw [if_neg h3] at e; cases e
    · rw [if_neg h2] at e; cases e
  · rw [if_neg h1] at e; cases e

theorem check_pair {con day cur h v x y ref : Int} (ht : tagOk con day cur = true) (hh : 0 ≤ h ∧ h < 16) (hv : 0 ≤ v ∧ v < 16) (hx : x ≠ 0) (hy : y ≠ 0) (hx' : x ≠ -9223372036854775808) (hy' : y ≠ -9223372036854775808) (hxy : x + y = 0) (hr : -1 ≤ ref) :
    checkE ⟨con, day, cur, 0, 0, ref⟩ [⟨h, cur, x⟩, ⟨v, cur, y⟩] = 0 := by
  have hc : belowB cur 8 = true := by
    unfold tagOk at ht
    rw [Bool.and_eq_true] at ht
    exact ht.2
  have hh' : belowB h 16 = true := by unfold belowB; exact decide_eq_true hh
  have hv' : belowB v 16 = true := by unfold belowB; exact decide_eq_true hv
  have a1 : rangesB ⟨con, day, cur, 0, 0, ref⟩ [⟨h, cur, x⟩, ⟨v, cur, y⟩] = true := by
    unfold rangesB lineOk
    simp [ht, hc, hh', hv', hr]
  have a2 : linesB ⟨con, day, cur, 0, 0, ref⟩ [⟨h, cur, x⟩, ⟨v, cur, y⟩] = true := by unfold linesB; simp
  have a3 : someB [⟨h, cur, x⟩, ⟨v, cur, y⟩] = true := by unfold someB; simp [hx, hy]
  have a4 : fitsB [⟨h, cur, x⟩, ⟨v, cur, y⟩] = true := by unfold fitsB; simp [hx', hy']
  have a5 : evenB [⟨h, cur, x⟩, ⟨v, cur, y⟩] = true := by unfold evenB; simp; omega
  unfold checkE
  rw [if_pos a1, if_pos a2, if_pos a3, if_pos a4, if_pos a5]

/-- A party's money of a flow. -/
def pam (h v am party : Int) : Int := if party = h then am else if party = v then -am else 0
theorem pam_bd {h v am party : Int} (ha : -9223372036854775807 ≤ am ∧ am ≤ 9223372036854775807) : -9223372036854775807 ≤ pam h v am party ∧ pam h v am party ≤ 9223372036854775807 := by
  unfold pam
  split
  · exact ha
  · split <;> omega
theorem amt_pair {h v am cur party : Int} (ha : -9223372036854775807 ≤ am ∧ am ≤ 9223372036854775807) (hn : h ≠ v) : amtK [⟨h, cur, am⟩, ⟨v, cur, -am⟩] party [(⟨h, cur, am⟩ : Ln), ⟨v, cur, -am⟩].length = pam h v am party := by
  have w1 : ∀ z : Int, -9223372036854775807 ≤ z ∧ z ≤ 9223372036854775807 → wrap64 (0 + z) = z := fun z hz => by rw [Int.zero_add]; exact IntWalk.wrap64_in z (by omega)
  show amtK [⟨h, cur, am⟩, ⟨v, cur, -am⟩] party 2 = _
  unfold pam
  simp only [amtK, Ln.at, List.getD_cons_zero, List.getD_cons_succ]
  by_cases h1 : h = party
  · subst h1
    rw [if_neg (fun e => hn e.symm), if_pos rfl, if_pos rfl, w1 am ha]
  · by_cases h2 : v = party
    · subst h2
      rw [if_pos rfl, if_neg h1, if_neg (fun e => h1 e.symm), if_pos rfl, w1 (-am) (by omega)]
    · rw [if_neg h2, if_neg h1, if_neg (fun e => h1 e.symm), if_neg (fun e => h2 e.symm)]
theorem tot_pair {con day cur h v am party : Int} (hn : h ≠ v) (a : Option Addr) (cap : Nat) (s : Six) (hs : s.tag = ⟨con, day, cur⟩) :
    (totIn ⟨con, day, cur⟩ party ⟨s, a, cap, [⟨h, cur, am⟩, ⟨v, cur, -am⟩]⟩ 2).sum = pam h v am party := by
  unfold totIn hit pam
  simp only [hs, decide_true, Bool.true_and]
  by_cases h1 : h = party
  · subst h1
    have : ¬ v = h := fun e => hn e.symm
    simp [this]
  · by_cases h2 : v = party
    · subst h2
      have : ¬ v = h := fun e => h1 e.symm
      simp [h1, this]
    · have a1 : ¬ party = h := fun e => h1 e.symm
      have a2 : ¬ party = v := fun e => h2 e.symm
      simp [h1, h2, a1, a2]
theorem pam_neg {h v am party : Int} (hn : h ≠ v) : pam h v (-am) party = -pam h v am party := by
  unfold pam
  split
  · rfl
  · split <;> simp

end Go.Proofs.YtklbgcpafbjekaaDoor
