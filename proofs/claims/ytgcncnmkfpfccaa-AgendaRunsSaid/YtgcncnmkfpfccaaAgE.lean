/- container/heap: up. -/
import Derived.Test.YtgcncnmkfpfccaaAgD
namespace Go.Proofs.Ytgcncnmkfpfccaa
open Go.RowKit Go.Sort Go.Shelf
set_option linter.unusedVariables false
set_option linter.unusedSimpArgs false

def UpEnd (w : World) (base B bm : Nat) (sv : Value) (L : List It) (N : Int) (n : Nat) (e : Ending) (w' : World) : Prop :=
  ∃ L' : List It, e = .returned (.tuple #[]) ∧ PAt w' base B bm sv L' N ∧ Turn (PAt.bs B bm sv) w w' ∧ L'.Perm L ∧ (∀ j, n ≤ j → L'[j]? = L[j]?) ∧ HeapG (gK L') n
structure UpRel (w : World) (base B bm : Nat) (sv : Value) (L : List It) (N : Int) (n j : Nat) (L1 : List It) (wr : World) : Prop where
  up : UpG (gK L1) n j
  perm : L1.Perm L
  rest : ∀ k, n ≤ k → L1[k]? = L[k]?
  at_ : PAt wr base B bm sv L1 N
  turn : Turn (PAt.bs B bm sv) w wr
theorem UpRel.fin {w wr : World} {base B bm : Nat} {sv : Value} {L : List It} {N : Int} {n j : Nat} {L1 : List It} (h : UpRel w base B bm sv L N n j L1 wr) (hc : 0 < j → ¬ ltK (gK L1 j) (gK L1 ((j - 1) / 2))) : UpEnd w base B bm sv L N n (.returned (.tuple #[])) wr :=
  ⟨L1, rfl, h.at_, h.turn, h.perm, h.rest, h.up.fin hc⟩
theorem UpRel.after {w wr w2 : World} {base B bm : Nat} {sv : Value} {L : List It} {N : Int} {n j : Nat} {L1 : List It} (h : UpRel w base B bm sv L N n j L1 wr) (hb : Below wr.heap.size wr w2) : UpRel w base B bm sv L N n j L1 w2 :=
  ⟨h.up, h.perm, h.rest, h.at_.after hb, h.turn.trans (Turn.of_below hb)⟩
theorem UpRel.next {w wr w2 : World} {base B bm : Nat} {sv : Value} {L : List It} {N : Int} {n i j : Nat} {L1 : List It} {x y : It} (h : UpRel w base B bm sv L N n j L1 wr) (hx : L1[i]? = some x) (hy : L1[j]? = some y) (hj : 0 < j) (hjn : j < n) (hp : (j - 1) / 2 = i) (hlt : ltK y.ky x.ky)
    (hA : PAt w2 base B bm sv (swapL L1 i j x y) N) (ht : Turn (PAt.bs B bm sv) wr w2) : UpRel w base B bm sv L N n i (swapL L1 i j x y) w2 where
  up := by
    rw [gK_swap hx hy]
    have := h.up.step hj hjn (by rw [hp, gK_at hy, gK_at hx]; exact hlt)
    rwa [hp] at this
  perm := (swapL_perm hx hy).trans h.perm
  rest := fun k hk => by rw [swapL_get hx hy, if_neg (by omega), if_neg (by omega)]; exact h.rest k hk
  at_ := hA
  turn := h.turn.trans ht
set_option maxHeartbeats 4000000 in
set_option maxRecDepth 100000 in
theorem up_ok (base B bm : Nat) (sv : Value) (L : List It) (N : Int) (j0 n : Nat) (hn : n ≤ L.length) (hl : L.length ≤ 1000000) (hj0 : j0 < n) (w : World) (h : PAt w base B bm sv L N) (hu : UpG (gK L) n j0) :
    Calls Try.prog 39 #[IF B, .int .i64 j0] w (UpEnd w base B bm sv L N n) := by
  have mL : ∀ w, Sem.run Try.prog (method 233 69 (.pointer (some ⟨B, 0, none⟩)) "Less") w = .ok (82, .pointer (some ⟨B, 0, none⟩)) w := fun _ => by kernel_rfl
  have mS : ∀ w, Sem.run Try.prog (method 233 69 (.pointer (some ⟨B, 0, none⟩)) "Swap") w = .ok (85, .pointer (some ⟨B, 0, none⟩)) w := fun _ => by kernel_rfl
  have eL := enters_of Try.func82 (by kernel_rfl) rfl
  have eS := enters_of Try.func85 (by kernel_rfl) rfl
  have HR0 : Hid (UpRel w base B bm sv L N n j0 L w) := ⟨hu, List.Perm.refl _, fun _ _ => rfl, h, Turn.of_below (Below.refl _ _)⟩
  clear h hu
  go_enter Try.func39, Try.ntmps39
  go_wp2_with fail
  go_loopw [1] (fun v wr => ∃ (j : Nat) (L1 : List It), v = .int .i64 j ∧ j < n ∧ Hid (UpRel w base B bm sv L N n j L1 wr)) (fun v _ => (intOf v).toNat)
  case atStart => exact ⟨j0, L, rfl, hj0, HR0⟩
  case round =>
    obtain ⟨j, L1, rfl, hj, HR⟩ := hrel
    have hl1 : L1.length = L.length := HR.out.perm.length_eq
    obtain ⟨i, hi⟩ : ∃ i, (j - 1) / 2 = i := ⟨_, rfl⟩
    have wm : IntKind.i64.wrap ((j : Int) - 1) = (j : Int) - 1 := IntWalk.i64_in _ (by omega)
    have wq : ((j : Int) - 1).tdiv 2 = (i : Int) := by
      rcases Nat.eq_zero_or_pos j with e | e
      · subst e; subst hi; decide
      · rw [Int.tdiv_eq_ediv_of_nonneg (by omega)]; omega
    have ww : IntKind.i64.wrap (i : Int) = (i : Int) := IntWalk.i64_in _ (by omega)
    obtain ⟨x, hx⟩ : ∃ x, L1[i]? = some x := ⟨_, List.getElem?_eq_getElem (by omega)⟩
    obtain ⟨y, hy⟩ : ∃ x, L1[j]? = some x := ⟨_, List.getElem?_eq_getElem (by omega)⟩
    have HX := Lib.hid hx
    have HY := Lib.hid hy
    have HI := Lib.hid hi
    clear hx hy hi
    by_cases h0 : j = 0
    · have hij : i = 0 := by have := HI.out; omega
      subst hij
      subst h0
      have HE := Lib.hid (HR.out.fin (fun h => by omega))
      go_wp2_with fail
      go_end0
      exact HE.out
    have hij : i ≠ j := by have := HI.out; omega
    have e0 : ((i : Int) == (j : Int)) = false := by rw [beq_eq_false_iff_ne]; omega
    have e0' : (i == j) = false := by rw [beq_eq_false_iff_ne]; omega
    go_wp2_with fail
    with_reducible refine (less_ok base B bm sv L1 N j i y x HY.out HX.out _ HR.out.at_).mono ?_
    rintro e w2 ⟨rfl, hb2⟩
    have HR2 := Lib.hid (HR.out.after hb2)
    clear hb2
    by_cases hlt : ltK y.ky x.ky
    · have e1 : decide (ltK y.ky x.ky) = true := decide_eq_true hlt
      rw [e1]
      have HLt := Lib.hid hlt
      clear hlt e1
      go_wp2_with fail
      with_reducible refine (swap_ok base B bm sv L1 N i j x y HX.out HY.out _ HR2.out.at_).mono ?_
      rintro e w4 ⟨rfl, hA, ht⟩
      have HR4 : Hid (UpRel w base B bm sv L N n i (swapL L1 i j x y) w4) := HR2.out.next HX.out HY.out (by omega) hj HI.out HLt.out hA ht
      clear hA ht
      go_wp2_with fail
      go_roundw
      case rel => exact ⟨i, _, rfl, by have := HI.out; omega, HR4⟩
      case measure => have := HI.out; simp [intOf]; omega
    · have e1 : decide (ltK y.ky x.ky) = false := decide_eq_false hlt
      rw [e1]
      have HE : Hid (UpEnd w base B bm sv L N n (.returned (.tuple #[])) w2) := HR2.out.fin (fun _ => by rw [HI.out, gK_at HX.out, gK_at HY.out]; exact hlt)
      clear hlt e1
      go_wp2_with fail
      go_end0
      exact HE.out

end Go.Proofs.Ytgcncnmkfpfccaa
