/- The document's ahead, Ordered. -/
import Derived.Test.YtmjgcenhgpkhiaaDoorAdL
namespace Go.Proofs.YtmjgcenhgpkhiaaDoor
open Go.RowKit Go.Sort Go.Shelf
set_option linter.unusedVariables false
set_option linter.unusedSimpArgs false

theorem ahead_ok (d c d' c' : Int) (b : Bool) (hb : b = true ↔ ltK (d, c) (d', c')) (w : World) : Calls Tryd.prog 42 #[.int .i64 d, .int .i64 c, .int .i64 d', .int .i64 c'] w fun e w' => e = .returned (.bool b) ∧ w' = w := by
  unfold ltK at hb
  by_cases h1 : d < d'
  · obtain rfl : b = true := hb.2 (.inl h1)
    have d1 : decide (d < d') = true := decide_eq_true h1
    clear hb h1
    go_enter Tryd.func42, Tryd.ntmps42
    go_wp2_with fail
    go_ret
    exact ⟨rfl, rfl⟩
  have d1 : decide (d < d') = false := decide_eq_false h1
  by_cases h2 : d = d'
  · subst h2
    have d2 : (d == d) = true := beq_self_eq_true d
    by_cases h3 : c < c'
    · obtain rfl : b = true := hb.2 (.inr ⟨rfl, h3⟩)
      have d3 : decide (c < c') = true := decide_eq_true h3
      clear hb h1 h3
      go_enter Tryd.func42, Tryd.ntmps42
      go_wp2_with fail
      go_ret
      exact ⟨rfl, rfl⟩
    · obtain rfl : b = false := by
        cases b with
        | false => rfl
        | true => rcases hb.1 rfl with h | ⟨_, h⟩ <;> simp only at h <;> omega
      have d3 : decide (c < c') = false := decide_eq_false h3
      clear hb h1 h3
      go_enter Tryd.func42, Tryd.ntmps42
      go_wp2_with fail
      go_ret
      exact ⟨rfl, rfl⟩
  · have d2 : (d == d') = false := by rw [beq_eq_false_iff_ne]; exact h2
    obtain rfl : b = false := by
      cases b with
      | false => rfl
      | true => rcases hb.1 rfl with h | ⟨h, _⟩ <;> simp only at h <;> omega
    clear hb h1 h2
    go_enter Tryd.func42, Tryd.ntmps42
    go_wp2_with fail
    go_ret
    exact ⟨rfl, rfl⟩
def RoEnd (w : World) (f : List Fl) (e : Ending) (w' : World) : Prop := e = .returned (.bool (ordB f)) ∧ Below w.heap.size w w'
theorem ordB_false {f : List Fl} (h : ¬ ((∀ x ∈ f, x.a ≠ 0) ∧ Rising Fl.ky f)) : ordB f = false := by
  cases hb : ordB f with
  | false => rfl
  | true => exact absurd (ordB_ok hb) h
theorem rising_of {f : List Fl} (h : ∀ i, i + 1 < f.length → ∀ x y, f[i]? = some x → f[i + 1]? = some y → ltK x.ky y.ky) : Rising Fl.ky f := by
  have hk : ∀ n i, i + n + 1 < f.length → ∀ x y, f[i]? = some x → f[i + n + 1]? = some y → ltK x.ky y.ky := by
    intro n
    induction n with
    | zero => exact fun i hi x y hx hy => h i hi x y hx hy
    | succ n ih =>
      intro i hi x y hx hy
      have hz := List.getElem?_eq_getElem (show i + n + 1 < f.length by omega)
      exact ltK_trans (ih i (by omega) x _ hx hz) (h (i + n + 1) (by omega) _ y hz (by rw [← hy]; congr 1))
  refine List.pairwise_iff_getElem.2 fun i j hi hj hij => ?_
  exact hk (j - i - 1) i (by omega) f[i] f[j] (List.getElem?_eq_getElem hi) (by rw [show i + (j - i - 1) + 1 = j by omega]; exact List.getElem?_eq_getElem hj)
set_option maxHeartbeats 4000000 in
set_option maxRecDepth 100000 in
theorem reford_ok (a : Option Addr) (cap : Nat) (f : List Fl) (w : World) (h : SlG w 3 encW a cap f) (hl : f.length ≤ 1000) :
    Calls Tryd.prog 30 #[.slice a f.length cap] w (RoEnd w f) := by
  have H := Lib.hid h
  have HB0 : Hid (Below w.heap.size w w) := Below.refl _ _
  clear h
  go_enter Tryd.func30, Tryd.ntmps30
  go_wp2_with fail
  go_loopw [3] (fun i wr => ∃ j : Nat, j ≤ f.length ∧ i = .int .i64 j ∧ Hid ((∀ x ∈ f.take j, x.a ≠ 0) ∧ (∀ i, i + 1 < j → ∀ x y, f[i]? = some x → f[i + 1]? = some y → ltK x.ky y.ky)) ∧ Hid (Below w.heap.size w wr)) (fun i _ => f.length - (intOf i).toNat)
  case atStart => exact ⟨0, by omega, rfl, ⟨(fun x hx => by cases hx), fun i hi => absurd hi (by omega)⟩, HB0⟩
  case round =>
    obtain ⟨j, hj, rfl, HP, HB⟩ := hrel
    by_cases hlt : j < f.length
    · obtain ⟨x, hy⟩ : ∃ x, f[j]'hlt = x := ⟨_, rfl⟩
      have hx : f[j]? = some x := by rw [← hy]; exact List.getElem?_eq_getElem hlt
      have hS := H.out.after HB.out
      rcases hS.sh with rfl | ⟨b, o, rfl, hbl⟩
      · exact absurd hlt (by simp)
      have hTk : f.take (j + 1) = f.take j ++ [x] := by rw [List.take_succ_eq_append_getElem hlt, hy]
      have hxm : x ∈ f := by rw [← hy]; exact List.getElem_mem _
      obtain ⟨xd, xc, xa⟩ := x
      have i1 : (0 : Int) ≤ (j : Int) := by omega
      have i2 : (j : Int) < (f.length : Int) := by omega
      have p0 : wr.cell? ⟨b, o + j * 3, none⟩ = some (.int .i64 xd) := RecsAt.cell hS.recs rfl hlt hx (j := 0) rfl
      have p1 : wr.cell? ⟨b, o + j * 3 + 1, none⟩ = some (.int .i64 xc) := RecsAt.cell hS.recs rfl hlt hx (j := 1) rfl
      have p2 : wr.cell? ⟨b, o + j * 3 + 2, none⟩ = some (.int .i64 xa) := RecsAt.cell hS.recs rfl hlt hx (j := 2) rfl
      by_cases ha : xa = 0
      · have d1 : (xa == 0) = true := by rw [beq_iff_eq]; exact ha
        have HF : Hid (∀ n, RoEnd w f (.returned (.bool false)) (wr.drewN n)) := fun n => ⟨by rw [ordB_false (fun h => h.1 _ hxm ha)], HB.out.trans (below_draws _ n)⟩
        clear hx hy hS hTk hxm ha HP HB
        go_wp2_with (go_quiet (fail))
        go_ret
        exact HF.out _
      have d1 : (xa == 0) = false := by rw [beq_eq_false_iff_ne]; exact ha
      have hA : ∀ x ∈ f.take (j + 1), x.a ≠ 0 := fun x hx' => by
        rw [hTk] at hx'
        rcases List.mem_append.1 hx' with h | h
        · exact HP.out.1 x h
        · rw [List.mem_singleton.1 h]; exact ha
      by_cases hj0 : j = 0
      · have s3 : decide ((0 : Int) < (j : Int)) = false := decide_eq_false (by omega)
        have s4 : decide (0 < j) = false := decide_eq_false (by omega)
        have HN : Hid ((∀ x ∈ f.take (j + 1), x.a ≠ 0) ∧ (∀ i, i + 1 < j + 1 → ∀ x y, f[i]? = some x → f[i + 1]? = some y → ltK x.ky y.ky)) := ⟨hA, fun i hi => absurd hi (by omega)⟩
        clear hx hy hS hTk hxm ha hA HP hj0
        go_wp2_with (go_quiet (fail))
        go_roundw
        case rel => exact ⟨j + 1, by omega, by go_num, HN, HB.out.trans (below_draws _ _)⟩
        case measure => simp [intOf]; omega
      · obtain ⟨k, hk⟩ : ∃ k, j = k + 1 := ⟨j - 1, by omega⟩
        have hkl : k < f.length := by omega
        obtain ⟨y, hy'⟩ : ∃ y, f[k]'hkl = y := ⟨_, rfl⟩
        have hx' : f[k]? = some y := by rw [← hy']; exact List.getElem?_eq_getElem hkl
        obtain ⟨yd, yc, ya⟩ := y
        have r0 : wr.cell? ⟨b, o + k * 3, none⟩ = some (.int .i64 yd) := RecsAt.cell hS.recs rfl hkl hx' (j := 0) rfl
        have r1 : wr.cell? ⟨b, o + k * 3 + 1, none⟩ = some (.int .i64 yc) := RecsAt.cell hS.recs rfl hkl hx' (j := 1) rfl
        have s2 : IntKind.i64.wrap ((j : Int) - 1) = (k : Int) := by rw [show (j : Int) - 1 = (k : Int) by omega]; exact IntWalk.i64_in _ (by omega)
        have s3 : decide ((0 : Int) < (j : Int)) = true := decide_eq_true (by omega)
        have s4 : decide (0 < j) = true := decide_eq_true (by omega)
        have i3 : (0 : Int) ≤ (k : Int) := by omega
        have i4 : (k : Int) < (f.length : Int) := by omega
        obtain ⟨B, hB⟩ : ∃ B : Bool, B = true ↔ ltK (yd, yc) (xd, xc) := by
          by_cases h : ltK (yd, yc) (xd, xc)
          · exact ⟨true, by simp [h]⟩
          · exact ⟨false, by simp [h]⟩
        have HA : Hid (∀ n, Calls Tryd.prog 42 #[.int .i64 yd, .int .i64 yc, .int .i64 xd, .int .i64 xc] (wr.drewN n) fun e w' => e = .returned (.bool B) ∧ ∃ m, w' = (wr.drewN n).drewN m) := fun n => (ahead_ok yd yc xd xc B hB _).mono fun e w' h => ⟨h.1, 0, h.2⟩
        cases B with
        | true =>
          have HN : Hid ((∀ x ∈ f.take (j + 1), x.a ≠ 0) ∧ (∀ i, i + 1 < j + 1 → ∀ x y, f[i]? = some x → f[i + 1]? = some y → ltK x.ky y.ky)) := ⟨hA, fun i hi x y e1 e2 => by
            rcases Nat.lt_or_ge (i + 1) j with h | h
            · exact HP.out.2 i h x y e1 e2
            · obtain rfl : i = k := by omega
              rw [← hk] at e2
              rw [hx'] at e1
              rw [hx] at e2
              cases e1; cases e2
              exact hB.1 rfl⟩
          clear hx hy hS hTk hxm ha hA HP hj0 hx' hy' hB hk
          go_wp2_with (go_quiet (with_reducible exact Calls.quiet_of (HA.out _)))
          go_roundw
          case rel => exact ⟨j + 1, by omega, by go_num, HN, HB.out.trans (below_draws _ _)⟩
          case measure => simp [intOf]; omega
        | false =>
          have hnb : ¬ ((∀ x ∈ f, x.a ≠ 0) ∧ Rising Fl.ky f) := fun h => by
            have := List.pairwise_iff_getElem.1 h.2 k j hkl hlt (by omega)
            rw [hy, hy'] at this
            exact Bool.false_ne_true (hB.2 this)
          have HF : Hid (∀ n, RoEnd w f (.returned (.bool false)) (wr.drewN n)) := fun n => ⟨by rw [ordB_false hnb], HB.out.trans (below_draws _ n)⟩
          clear hx hy hS hTk hxm ha hA HP hj0 hx' hy' hB hnb HB hk
          go_wp2_with (go_quiet (with_reducible exact Calls.quiet_of (HA.out _)))
          go_ret
          exact HF.out _
    · obtain rfl : j = f.length := by omega
      have hE : ordB f = true := by
        have h1 := HP.out.1
        rw [List.take_length] at h1
        exact ordB_of h1 (rising_of HP.out.2)
      have HF : Hid (RoEnd w f (.returned (.bool true)) wr) := ⟨by rw [hE], HB.out⟩
      clear hE HP
      go_wp2_with fail
      go_ret
      exact HF.out

end Go.Proofs.YtmjgcenhgpkhiaaDoor
