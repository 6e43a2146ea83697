/- The cuts' order, plainly: what the insertion sort makes; slices.SortStableFunc of fewer than 20. -/
import Derived.Test.YtncodoaphfeefaaAmtC
import Derived.Sort.LotA
namespace Go.Proofs.Ytncodoaphfeefaa
open Go.RowKit Go.Shelf Go.Lib Go.Sort
set_option linter.unusedVariables false
set_option linter.unusedSimpArgs false

/-- The order: what was cut off most first; of as much, what stands first. -/
def lexC (x y : Cut) : Prop := y.2 < x.2 ∨ (x.2 = y.2 ∧ x.1 < y.1)
theorem lexC_trans {x y z : Cut} (h : lexC x y) (k : lexC y z) : lexC x z := by unfold lexC at *; omega
theorem ltC (x y : Cut) : ltOf cmpC x y = decide (y.2 < x.2) := by
  unfold ltOf cmpC
  rw [Bool.eq_iff_iff, decide_eq_true_iff, decide_eq_true_iff]
  split
  · omega
  · split <;> omega
theorem swoC : SWO (ltOf cmpC) := ⟨fun x => by rw [ltC]; simp, fun x y z h k => by rw [ltC, decide_eq_true_iff] at *; omega, fun x y z h k => by rw [ltC, decide_eq_false_iff_not] at *; omega⟩

theorem ins_inner : ∀ (j : Nat) (d : Array Cut), j < d.size → (∀ a b, a < b → b < j → lexC d[a]! d[b]!) → (∀ a, a < j → (d[a]!).1 < (d[j]!).1) →
    (insInner (ltOf cmpC) 0 j d).size = d.size ∧ (∀ k, j < k → (insInner (ltOf cmpC) 0 j d)[k]! = d[k]!) ∧ (∀ a b, a < b → b ≤ j → lexC (insInner (ltOf cmpC) 0 j d)[a]! (insInner (ltOf cmpC) 0 j d)[b]!) ∧ (∀ k, k ≤ j → ∃ m, m ≤ j ∧ (insInner (ltOf cmpC) 0 j d)[k]! = d[m]!)
  | 0, d, _, _, _ => by
    unfold insInner
    exact ⟨rfl, fun _ _ => rfl, fun a b h1 h2 => by omega, fun k hk => ⟨k, hk, rfl⟩⟩
  | j + 1, d, hj, hpre, hat => by
    unfold insInner
    rw [ltC]
    by_cases hc : (d[j]!).2 < (d[j + 1]!).2
    · rw [if_pos (by simp [hc])]
      have hs : (swp d (j + 1) j).size = d.size := size_swp _ _ _
      have e1 : (swp d (j + 1) j)[j]! = d[j + 1]! := by rw [swp_get d (by omega) (by omega)]; simp
      have e2 : (swp d (j + 1) j)[j + 1]! = d[j]! := by rw [swp_get d (by omega) (by omega)]; simp
      have e3 : ∀ k, k ≠ j → k ≠ j + 1 → (swp d (j + 1) j)[k]! = d[k]! := fun k h1 h2 => swp_other d (j + 1) j k h2 h1
      obtain ⟨g1, g2, g3, g4⟩ := ins_inner j (swp d (j + 1) j) (by rw [hs]; omega) (fun a b h1 h2 => by
        rw [e3 a (by omega) (by omega), e3 b (by omega) (by omega)]
        exact hpre a b h1 (by omega)) (fun a h1 => by
        rw [e3 a (by omega) (by omega), e1]
        exact hat a (by omega))
      refine ⟨by rw [g1, hs], fun k hk => by rw [g2 k (by omega), e3 k (by omega) (by omega)], fun a b h1 h2 => ?_, fun k hk => ?_⟩
      · rcases Nat.lt_or_ge j b with h3 | h3
        · obtain rfl : b = j + 1 := by omega
          rw [g2 (j + 1) (by omega), e2]
          obtain ⟨m, hm, em⟩ := g4 a (by omega)
          rw [em]
          by_cases hmj : m = j
          · subst hmj
            rw [e1]
            exact Or.inl hc
          · rw [e3 m hmj (by omega)]
            exact hpre m j (by omega) (by omega)
        · exact g3 a b h1 h3
      · rcases Nat.lt_or_ge j k with h3 | h3
        · obtain rfl : k = j + 1 := by omega
          exact ⟨j, by omega, by rw [g2 (j + 1) (by omega), e2]⟩
        · obtain ⟨m, hm, em⟩ := g4 k h3
          by_cases hmj : m = j
          · subst hmj
            exact ⟨m + 1, by omega, by rw [em, e1]⟩
          · exact ⟨m, by omega, by rw [em, e3 m hmj (by omega)]⟩
    · rw [if_neg (by simp [hc])]
      refine ⟨rfl, fun _ _ => rfl, fun a b h1 h2 => ?_, fun k hk => ⟨k, hk, rfl⟩⟩
      have hlast : lexC d[j]! d[j + 1]! := by
        have := hat j (by omega)
        unfold lexC
        omega
      rcases Nat.lt_or_ge b (j + 1) with h3 | h3
      · exact hpre a b h1 h3
      · obtain rfl : b = j + 1 := by omega
        rcases Nat.lt_or_ge a j with h4 | h4
        · exact lexC_trans (hpre a j h4 (by omega)) hlast
        · obtain rfl : a = j := by omega
          exact hlast

theorem ins_outer (d0 : Array Cut) (h0 : ∀ a b, a < b → b < d0.size → (d0[a]!).1 < (d0[b]!).1) : ∀ (g i : Nat) (d : Array Cut), d0.size - i ≤ g → i ≤ d0.size → d.size = d0.size → (∀ a b, a < b → b < i → lexC d[a]! d[b]!) → (∀ k, k < i → ∃ m, m < i ∧ d[k]! = d0[m]!) → (∀ k, i ≤ k → d[k]! = d0[k]!) →
    ∀ a b, a < b → b < d0.size → lexC (insOuter (ltOf cmpC) 0 d0.size i d)[a]! (insOuter (ltOf cmpC) 0 d0.size i d)[b]!
  | 0, i, d, hg, hi, hs, h1, h2, h3 => by
    unfold insOuter
    rw [if_neg (by omega)]
    intro a b hab hb
    exact h1 a b hab (by omega)
  | g + 1, i, d, hg, hi, hs, h1, h2, h3 => by
    unfold insOuter
    by_cases hlt : i < d0.size
    · rw [if_pos hlt]
      obtain ⟨g1, g2, g3, g4⟩ := ins_inner i d (by omega) h1 (fun a ha => by
        obtain ⟨m, hm, em⟩ := h2 a ha
        rw [em, h3 i (Nat.le_refl _)]
        exact h0 m i hm hlt)
      refine ins_outer d0 h0 g (i + 1) _ (by omega) (by omega) (by rw [g1, hs]) (fun a b hab hb => g3 a b hab (by omega)) (fun k hk => ?_) (fun k hk => by rw [g2 k (by omega), h3 k (by omega)])
      obtain ⟨m, hm, em⟩ := g4 k (by omega)
      rcases Nat.lt_or_ge m i with h5 | h5
      · obtain ⟨m', hm', em'⟩ := h2 m h5
        exact ⟨m', by omega, by rw [em, em']⟩
      · obtain rfl : m = i := by omega
        exact ⟨m, by omega, by rw [em, h3 m (Nat.le_refl _)]⟩
    · rw [if_neg hlt]
      intro a b hab hb
      exact h1 a b hab (by omega)

/-- Cuts in order. -/
structure SortedOf (d d' : Array Cut) : Prop where
  size : d'.size = d.size
  rises : ∀ a b, a < b → b < d'.size → lexC d'[a]! d'[b]!
  perm : d'.toList.Perm d.toList
theorem insert_sorts (d : Array Cut) (h0 : ∀ a b, a < b → b < d.size → (d[a]!).1 < (d[b]!).1) : SortedOf d (Sort.insertionSort (ltOf cmpC) d 0 d.size) := by
  obtain ⟨⟨p1, p2, p3⟩, _⟩ := insertionSort_holds (lt := ltOf cmpC) swoC d 0 d.size (Nat.zero_le _) (Nat.le_refl _)
  refine ⟨p1, fun a b hab hb => ?_, ?_⟩
  · rw [p1] at hb
    rcases Nat.eq_zero_or_pos d.size with hz | hz
    · omega
    · exact ins_outer d h0 d.size 1 d (by omega) (by omega) rfl (fun a b h1 h2 => by omega) (fun k hk => ⟨k, hk, rfl⟩) (fun k hk => rfl) a b hab hb
  · have e1 : ∀ x : Array Cut, x.extract 0 x.size = x := fun x => by simp
    have e2 : ∀ x : Array Cut, x.size = d.size → x.extract 0 d.size = x := fun x h => by rw [← h]; exact e1 x
    rw [e2 _ p1, e1] at p3
    exact p3

def SortEnd (blk : Nat) (d : Array Cut) (w : World) (e : Ending) (w' : World) : Prop := e = .returned (.tuple #[]) ∧ ∃ d' m os, SortedOf d d' ∧ w' = sortWorldK encC 2 w blk 0 m d' os
/-- What a sort of n cuts is to do. -/
def StableAt (n : Nat) : Prop := ∀ (blk cap : Nat) (d : Array Cut) (w : World), d.size = n → (∀ a b, a < b → b < d.size → (d[a]!).1 < (d[b]!).1) → HoldsK encC 2 w blk 0 d → blk < w.heap.size →
  Calls Try.prog 35 #[.slice (some ⟨blk, 0, none⟩) n cap, .func (.func 36) #[] #[]] w (SortEnd blk d w)

set_option maxHeartbeats 2000000 in
set_option maxRecDepth 100000 in
theorem stable_few (n : Nat) (hn : n < 20) : StableAt n := by
  intro blk cap d w hs h0 hH hblk
  have HI := Lib.hid (insert_ok blk cap 0 d.size d w hH hblk (Nat.zero_le _) (Nat.le_refl _) (by omega))
  have HSO := Lib.hid (insert_sorts d h0)
  obtain ⟨d', hd'⟩ : ∃ d', Sort.insertionSort (ltOf cmpC) d 0 d.size = d' := ⟨_, rfl⟩
  rw [hd'] at HI HSO
  rw [hs, show ((0 : Nat) : Int) = 0 from rfl] at HI
  have hni : (n : Int) < 20 := by omega
  have HST : Calls Try.prog 43 #[.slice (some ⟨blk, 0, none⟩) n cap, .int .i64 (n : Int), .func (.func 36) #[] #[]] w (SortEnd blk d w) := by
    clear hd' hs h0 hH hblk hn
    go_enter Try.func43, Try.ntmps43
    go_wp2_with fail
    go_loop [7, 8] (fun a b => a = .int .i64 0 ∧ b = .int .i64 20) (fun _ _ => 0)
    case atStart => exact ⟨rfl, rfl⟩
    case round =>
      obtain ⟨rfl, rfl⟩ := hrel
      go_wp2_with fail
      with_reducible refine HI.out.mono ?_
      rintro e w1 ⟨rfl, m, os, rfl⟩
      go_wp2_with fail
      go_loop [6] (fun a => a = .int .i64 20) (fun _ => 0)
      case atStart => rfl
      case round =>
        subst hrel
        go_wp2_with fail
        go_end0
        exact ⟨rfl, d', m, os, HSO.out, rfl⟩
  have HS := Lib.hid HST
  clear hd' hs h0 hH hblk hn HI HST
  go_enter Try.func35, Try.ntmps35
  go_wp2_with fail
  with_reducible refine HS.out.mono ?_
  rintro e w1 ⟨rfl, d'', m, os, h1, rfl⟩
  have H1 := Lib.hid h1
  clear h1
  go_wp2_with fail
  go_end0
  exact ⟨rfl, d'', m, os, H1.out, rfl⟩

end Go.Proofs.Ytncodoaphfeefaa
