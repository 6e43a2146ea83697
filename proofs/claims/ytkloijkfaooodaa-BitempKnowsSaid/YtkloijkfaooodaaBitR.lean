/- The document's store: Seq, Latest, Put. -/
import Derived.Test.YtkloijkfaooodaaBitP
import Derived.BigGuardPart
namespace Go.Proofs.Ytkloijkfaooodaa
open Go.RowKit Go.Shelf
set_option linter.unusedVariables false
set_option linter.unusedSimpArgs false
attribute [local go_sem ↓] Go.wp_at_zero Go.wp_at_succ

theorem encR_one : ∀ x : Vs, ∀ v ∈ encR x, v.oneCell' = true := fun x v hv => by simp [encR] at hv; rcases hv with rfl | rfl | rfl | rfl | rfl | rfl | rfl <;> rfl
/-- The document's store in memory. -/
structure RfAt (w : World) (base p : Nat) (sv : Value) (V : List Vs) : Prop where
  blk : Blk w p #[sv] 48
  own : w.ownsRow base 56 7 sv V.length (cellsL encR V)
  hp : base ≤ p
def RfAt.bs (p : Nat) (sv : Value) : List Nat := p :: sv.ownBlock.toList
theorem RfAt.turn {w w' : World} {base p : Nat} {sv : Value} {V : List Vs} {bs : List Nat} (h : RfAt w base p sv V) (ht : Turn bs w w') (h1 : p ∉ bs) (h3 : ∀ g, sv.ownBlock = some g → g ∉ bs) : RfAt w' base p sv V :=
  ⟨ht.blk h.blk h1, ht.own h.own h3, h.hp⟩
theorem RfAt.after {w w' : World} {base p : Nat} {sv : Value} {V : List Vs} (h : RfAt w base p sv V) (hb : Below w.heap.size w w') : RfAt w' base p sv V :=
  h.turn (bs := []) (Turn.of_below hb) (by simp) (by simp)
theorem RfAt.bs_lt {w : World} {base p : Nat} {sv : Value} {V : List Vs} (h : RfAt w base p sv V) : ∀ b ∈ RfAt.bs p sv, base ≤ b ∧ b < w.heap.size := fun b hb => by
  unfold RfAt.bs at hb
  rcases List.mem_cons.1 hb with rfl | hb
  · exact ⟨h.hp, h.blk.lt⟩
  · have := own_cells h.own (Option.mem_toList.1 hb)
    exact ⟨this.1, this.2.1⟩

theorem rseq_ok (base p : Nat) (sv : Value) (V : List Vs) (w : World) (h : RfAt w base p sv V) (hl : V.length ≤ 2513169434910) : Calls Try.prog 41 #[.pointer (some ⟨p, 0, none⟩)] w fun e w' => e = .returned (.int .i64 (seqV V)) ∧ ∃ n, w' = w.drewN n := by
  obtain ⟨a, cap, rfl, _, _, _, _, hR⟩ := owned_recs (enc := encR) (size := 7) (fun _ => rfl) h.own rfl
  have c0 : w.cell? ⟨p, 0, none⟩ = some (.slice a V.length cap) := h.blk.cell 0 rfl
  clear h
  by_cases h0 : 0 < V.length
  · obtain ⟨v, hv, hs⟩ := seqV_at h0
    obtain ⟨b, o, rfl, _⟩ := hR h0
    have c1 : w.cell? ⟨b, o + (V.length - 1) * 7, none⟩ = some (.int .i64 v.s) := RecsAt.cell hR rfl (by omega) hv (j := 0) rfl
    have HS := Lib.hid hs
    have i1 : (0 : Int) < (V.length : Int) := by omega
    have i2 : (0 : Int) ≤ (V.length : Int) - 1 := by omega
    have i3 : (V.length : Int) - 1 < (V.length : Int) := by omega
    have d0 : ((V.length : Int) == 0) = false := by rw [beq_eq_false_iff_ne]; omega
    have d1 : (V.length == 0) = false := by rw [beq_eq_false_iff_ne]; omega
    have i4 : IntKind.i64.wrap ((V.length : Int) - 1) = (V.length : Int) - 1 := IntWalk.i64_in _ (by omega)
    obtain ⟨z, hz⟩ : ∃ z, v.s = z := ⟨_, rfl⟩
    rw [hz] at c1 HS
    clear hv hs hR hz h0
    go_enter Try.func41, Try.ntmps41
    go_wp2_with (go_quiet (fail))
    go_ret
    rw [HS.out]
    exact ⟨rfl, _, rfl⟩
  · have hV : V = [] := List.length_eq_zero_iff.1 (by omega)
    subst hV
    clear hR
    go_enter Try.func41, Try.ntmps41
    go_wp2_with fail
    go_ret
    exact ⟨rfl, 0, rfl⟩

theorem drop_no {V : List Vs} {i j : Nat} {x : Vs} {q : PK} {s : Int} (hd : V.drop i = x :: V.drop j) (h : ∀ u ∈ V.drop j, ¬ (u.pl = q ∧ u.s ≤ s)) (hx : ¬ (x.pl = q ∧ x.s ≤ s)) : Hid (∀ u ∈ V.drop i, ¬ (u.pl = q ∧ u.s ≤ s)) := by
  show ∀ u ∈ _, _
  rw [hd]
  intro u hu
  rcases List.mem_cons.1 hu with rfl | hu
  · exact hx
  · exact h u hu
def LatREnd (w : World) (V : List Vs) (q : PK) (s : Int) (e : Ending) (w' : World) : Prop := ∃ i, e = .returned (.int .i64 i) ∧ latI V q s i ∧ Below w.heap.size w w'
set_option maxHeartbeats 4000000 in
theorem rlat_ok (base p : Nat) (sv : Value) (V : List Vs) (c : Bool) (key day s : Int) (w : World) (h : RfAt w base p sv V) (hl : V.length ≤ 2513169434910) :
    Calls Try.prog 28 #[.pointer (some ⟨p, 0, none⟩), .int .i64 (kindV c), .int .i64 key, .int .i64 day, .int .i64 s] w (LatREnd w V (c, key, day) s) := by
  have H := Lib.hid h
  obtain ⟨a, cap, rfl, _, _, _, _, hR⟩ := owned_recs (enc := encR) (size := 7) (fun _ => rfl) h.own rfl
  have HR := Lib.hid hR
  have c0 : w.cell? ⟨p, 0, none⟩ = some (.slice a V.length cap) := h.blk.cell 0 rfl
  obtain ⟨kc, hkc⟩ : ∃ k, kindV c = k := ⟨_, rfl⟩
  rw [hkc]
  have HKC := Lib.hid hkc
  clear h hR hkc
  go_enter Try.func28, Try.ntmps28
  go_wp2_with fail
  go_loopw [11] (fun i wr => ∃ j : Nat, j ≤ V.length ∧ i = .int .i64 ((j : Int) - 1) ∧ Hid (∀ u ∈ V.drop j, ¬ (u.pl = (c, key, day) ∧ u.s ≤ s)) ∧ Hid (Below w.heap.size w wr)) (fun i _ => (intOf i + 1).toNat)
  case atStart => exact ⟨V.length, Nat.le_refl _, rfl, (fun u hu => by simp at hu), Below.refl _ _⟩
  case round =>
    obtain ⟨j, hj, rfl, HD, HB⟩ := hrel
    clear c0
    have c0 : wr.cell? ⟨p, 0, none⟩ = some (.slice a V.length cap) := (H.out.after HB.out).blk.cell 0 rfl
    by_cases hlt : 0 < j
    · have hx := List.getElem?_eq_getElem (show j - 1 < V.length by omega)
      obtain ⟨x, hy⟩ : ∃ x, V[j - 1] = x := ⟨_, rfl⟩
      rw [hy] at hx
      have HX := Lib.hid hx
      have hdr : V.drop (j - 1) = x :: V.drop j := by
        rw [List.drop_eq_getElem_cons (show j - 1 < V.length by omega), hy, show j - 1 + 1 = j by omega]
      have HDr := Lib.hid hdr
      have hRr : RecsAt wr a 7 encR V := RowsAt.after HR.out HB.out
      obtain ⟨b, o, rfl, _⟩ := hRr (by omega)
      obtain ⟨xs, xc, xk, xd, xn, xm, xp⟩ := x
      have hlt' : j - 1 < V.length := by omega
      have t0 : wr.cell? ⟨b, o + (j - 1) * 7, none⟩ = some (.int .i64 xs) := RecsAt.cell hRr rfl hlt' hx (j := 0) rfl
      have t1 : wr.cell? ⟨b, o + (j - 1) * 7 + 1, none⟩ = some (.int .i64 (kindV xc)) := RecsAt.cell hRr rfl hlt' hx (j := 1) rfl
      have t2 : wr.cell? ⟨b, o + (j - 1) * 7 + 2, none⟩ = some (.int .i64 xk) := RecsAt.cell hRr rfl hlt' hx (j := 2) rfl
      have t3 : wr.cell? ⟨b, o + (j - 1) * 7 + 3, none⟩ = some (.int .i64 xd) := RecsAt.cell hRr rfl hlt' hx (j := 3) rfl
      have t4 : wr.cell? ⟨b, o + (j - 1) * 7 + 4, none⟩ = some (.int .i64 xn) := RecsAt.cell hRr rfl hlt' hx (j := 4) rfl
      have t5 : wr.cell? ⟨b, o + (j - 1) * 7 + 5, none⟩ = some (.int .i64 xm) := RecsAt.cell hRr rfl hlt' hx (j := 5) rfl
      have t6 : wr.cell? ⟨b, o + (j - 1) * 7 + 6, none⟩ = some (.int .i64 xp) := RecsAt.cell hRr rfl hlt' hx (j := 6) rfl
      obtain ⟨xz, hxz⟩ : ∃ z, kindV xc = z := ⟨_, rfl⟩
      rw [hxz] at t1
      have HXZ := Lib.hid hxz
      have i1 : (0 : Int) ≤ (j : Int) - 1 := by omega
      have i2 : (j : Int) - 1 < (V.length : Int) := by omega
      have hnext : Value.int .i64 ((j : Int) - 1 - 1) = .int .i64 (((j - 1 : Nat) : Int) - 1) := by congr 1; omega
      have HNext := Lib.hid hnext
      have hBX : Below w.heap.size w (wr.alloc (.cells #[.int .i64 xs, .int .i64 xz, .int .i64 xk, .int .i64 xd, .int .i64 xn, .int .i64 xm, .int .i64 xp] 56)) := HB.out.alloc HB.out.size _
      have HB2 := Lib.hid hBX
      clear hx hy hdr hRr hxz hBX hnext
      by_cases h1 : xs ≤ s
      · by_cases h2 : xz = kc
        · by_cases h3 : xk = key
          · by_cases h4 : xd = day
            · have HG : Hid (latI V (c, key, day) s ((j : Int) - 1)) := Or.inr ⟨j - 1, _, by omega, HX.out, by
                have : xc = c := kindV_inj (HXZ.out.trans (h2.trans HKC.out.symm))
                rw [this, h3, h4]
                rfl, h1, by rw [show j - 1 + 1 = j by omega]; exact HD.out⟩
              subst h2 h3 h4
              have d1 : decide (xs ≤ s) = true := decide_eq_true h1
              clear h1
              go_wp2_with fail
              go_ret
              exact ⟨_, rfl, HG.out, HB2.out⟩
            · have HD2 : Hid (∀ u ∈ V.drop (j - 1), ¬ (u.pl = (c, key, day) ∧ u.s ≤ s)) := drop_no HDr.out HD.out (fun h => h4 (by have := h.1; simp [Vs.pl] at this; exact this.2.2))
              subst h2 h3
              have d1 : decide (xs ≤ s) = true := decide_eq_true h1
              have d2 : (xd == day) = false := by simpa using h4
              clear h1 h4
              go_wp2_with fail
              go_roundw
              case rel => exact ⟨j - 1, by omega, HNext.out, HD2, HB2⟩
              case measure => simp [intOf]; omega
          · have HD2 : Hid (∀ u ∈ V.drop (j - 1), ¬ (u.pl = (c, key, day) ∧ u.s ≤ s)) := drop_no HDr.out HD.out (fun h => h3 (by have := h.1; simp [Vs.pl] at this; exact this.2.1))
            subst h2
            have d1 : decide (xs ≤ s) = true := decide_eq_true h1
            have d2 : (xk == key) = false := by simpa using h3
            clear h1 h3
            go_wp2_with fail
            go_roundw
            case rel => exact ⟨j - 1, by omega, HNext.out, HD2, HB2⟩
            case measure => simp [intOf]; omega
        · have HD2 : Hid (∀ u ∈ V.drop (j - 1), ¬ (u.pl = (c, key, day) ∧ u.s ≤ s)) := drop_no HDr.out HD.out (fun h => h2 (by have := h.1; simp [Vs.pl] at this; rw [← HXZ.out, ← HKC.out, this.1]))
          have d1 : decide (xs ≤ s) = true := decide_eq_true h1
          have d2 : (xz == kc) = false := by simpa using h2
          clear h1 h2
          go_wp2_with fail
          go_roundw
          case rel => exact ⟨j - 1, by omega, HNext.out, HD2, HB2⟩
          case measure => simp [intOf]; omega
      · have HD2 : Hid (∀ u ∈ V.drop (j - 1), ¬ (u.pl = (c, key, day) ∧ u.s ≤ s)) := drop_no HDr.out HD.out (fun h => h1 h.2)
        have d1 : decide (xs ≤ s) = false := decide_eq_false h1
        clear h1
        go_wp2_with fail
        go_roundw
        case rel => exact ⟨j - 1, by omega, HNext.out, HD2, HB2⟩
        case measure => simp [intOf]; omega
    · obtain rfl : j = 0 := by omega
      have HG : Hid (latI V (c, key, day) s (-1)) := Or.inl ⟨rfl, by have := HD.out; simpa using this⟩
      clear HD c0
      go_wp2_with fail
      go_ret
      exact ⟨_, rfl, HG.out, HB.out⟩

end Go.Proofs.Ytkloijkfaooodaa
