/- container/heap: down, up. -/
import Derived.Test.YtgcncnmkfpfccaaAgC
import Derived.Test.YtgcncnmkfpfccaaAgH
namespace Go.Proofs.Ytgcncnmkfpfccaa
open Go.RowKit Go.Sort Go.Shelf
set_option linter.unusedVariables false
set_option linter.unusedSimpArgs false

def gK (L : List It) : Nat → KD := fun j => (L.getD j default).ky
theorem gK_at {L : List It} {j : Nat} {x : It} (h : L[j]? = some x) : gK L j = x.ky := by unfold gK; rw [List.getD_eq_getElem?_getD, h]; rfl
theorem gK_swap {L : List It} {i k : Nat} {x y : It} (hi : L[i]? = some x) (hk : L[k]? = some y) : gK (swapL L i k x y) = swG (gK L) i k := by
  funext j
  unfold swG
  by_cases h1 : j = k
  · rw [if_pos h1, gK_at hi]
    exact gK_at (by rw [swapL_get hi hk, if_pos h1])
  · rw [if_neg h1]
    by_cases h2 : j = i
    · rw [if_pos h2, gK_at hk]
      exact gK_at (by rw [swapL_get hi hk, if_neg h1, if_pos h2])
    · rw [if_neg h2]
      unfold gK
      rw [List.getD_eq_getElem?_getD, List.getD_eq_getElem?_getD, swapL_get hi hk, if_neg h1, if_neg h2]
theorem gK_congr {L L' : List It} {j : Nat} (h : L'[j]? = L[j]?) : gK L' j = gK L j := by unfold gK; rw [List.getD_eq_getElem?_getD, List.getD_eq_getElem?_getD, h]
abbrev IF (B : Nat) : Value := .iface 69 (.pointer (some ⟨B, 0, none⟩))
def DownEnd (w : World) (base B bm : Nat) (sv : Value) (L : List It) (N : Int) (i0 n : Nat) (e : Ending) (w' : World) : Prop :=
  ∃ (L' : List It) (mv : Bool), e = .returned (.bool mv) ∧ PAt w' base B bm sv L' N ∧ Turn (PAt.bs B bm sv) w w' ∧ L'.Perm L ∧ (∀ j, n ≤ j → L'[j]? = L[j]?) ∧ (mv = true → HeapG (gK L') n) ∧ (mv = false → L' = L ∧ ∀ c, 0 < c → c < n → c ≠ i0 → okH (gK L) c)
/-- Where sifting down stands. -/
structure DnRel (w : World) (base B bm : Nat) (sv : Value) (L : List It) (N : Int) (i0 n i : Nat) (L1 : List It) (wr : World) : Prop where
  le : i0 ≤ i
  dn : DnG (gK L1) n i (i ≠ i0)
  perm : L1.Perm L
  same : i = i0 → L1 = L
  rest : ∀ j, n ≤ j → L1[j]? = L[j]?
  at_ : PAt wr base B bm sv L1 N
  turn : Turn (PAt.bs B bm sv) w wr
theorem DnRel.fin {w wr : World} {base B bm : Nat} {sv : Value} {L : List It} {N : Int} {i0 n i : Nat} {L1 : List It} (h : DnRel w base B bm sv L N i0 n i L1 wr) (hc : ∀ c, 0 < c → c < n → (c - 1) / 2 = i → ¬ ltK (gK L1 c) (gK L1 i)) : DownEnd w base B bm sv L N i0 n (.returned (.bool (decide (i0 < i)))) wr := by
  have hf := h.dn.fin hc
  refine ⟨L1, _, rfl, h.at_, h.turn, h.perm, h.rest, fun e => ?_, fun e => ?_⟩
  · have hi : i ≠ i0 := by have := of_decide_eq_true e; omega
    exact fun c h0 hn => hf c h0 hn (Or.inr hi)
  · have hi : i = i0 := by have := of_decide_eq_false e; have := h.le; omega
    have hL := h.same hi
    subst hL
    subst hi
    exact ⟨rfl, fun c h0 hn hne => hf c h0 hn (Or.inl hne)⟩
theorem DnRel.next {w wr w2 : World} {base B bm : Nat} {sv : Value} {L : List It} {N : Int} {i0 n i j : Nat} {L1 : List It} {x y : It} (h : DnRel w base B bm sv L N i0 n i L1 wr) (hx : L1[i]? = some x) (hy : L1[j]? = some y) (hj : 0 < j) (hjn : j < n) (hp : (j - 1) / 2 = i) (hlt : ltK y.ky x.ky)
    (hmin : ∀ c, 0 < c → c < n → (c - 1) / 2 = i → ¬ ltK (gK L1 c) (gK L1 j)) (hA : PAt w2 base B bm sv (swapL L1 i j x y) N) (ht : Turn (PAt.bs B bm sv) wr w2) : DnRel w base B bm sv L N i0 n j (swapL L1 i j x y) w2 where
  le := by have := h.le; omega
  dn := by
    rw [gK_swap hx hy]
    have := h.dn.step hj hjn hp (by rw [gK_at hy, gK_at hx]; exact hlt) hmin
    exact ⟨fun c h0 hn _ hc => this.a c h0 hn (Or.inr trivial) hc, this.b⟩
  perm := (swapL_perm hx hy).trans h.perm
  same := fun e => by have := h.le; omega
  rest := fun k hk => by rw [swapL_get hx hy, if_neg (by omega), if_neg (by omega)]; exact h.rest k hk
  at_ := hA
  turn := h.turn.trans ht
theorem PAt.kept {w w' : World} {base B bm : Nat} {sv : Value} {L : List It} {N : Int} (h : PAt w base B bm sv L N) (hb : Below w.heap.size w w') : PAt w' base B bm sv L N := h.after hb
theorem DnRel.after {w wr w2 : World} {base B bm : Nat} {sv : Value} {L : List It} {N : Int} {i0 n i : Nat} {L1 : List It} (h : DnRel w base B bm sv L N i0 n i L1 wr) (hb : Below wr.heap.size wr w2) : DnRel w base B bm sv L N i0 n i L1 w2 :=
  ⟨h.le, h.dn, h.perm, h.same, h.rest, h.at_.after hb, h.turn.trans (Turn.of_below hb)⟩
set_option maxHeartbeats 4000000 in
set_option maxRecDepth 100000 in
theorem down_ok (base B bm : Nat) (sv : Value) (L : List It) (N : Int) (i0 n : Nat) (hn : n ≤ L.length) (hl : L.length ≤ 1000000) (hi0 : i0 ≤ 1000000) (w : World) (h : PAt w base B bm sv L N) (hd : DnG (gK L) n i0 False) :
    Calls Try.prog 38 #[IF B, .int .i64 i0, .int .i64 n] w (DownEnd w base B bm sv L N i0 n) := by
  have mL : ∀ w, Sem.run Try.prog (method 233 69 (.pointer (some ⟨B, 0, none⟩)) "Less") w = .ok (82, .pointer (some ⟨B, 0, none⟩)) w := fun _ => by kernel_rfl
  have mS : ∀ w, Sem.run Try.prog (method 233 69 (.pointer (some ⟨B, 0, none⟩)) "Swap") w = .ok (85, .pointer (some ⟨B, 0, none⟩)) w := fun _ => by kernel_rfl
  have eL := enters_of Try.func82 (by kernel_rfl) rfl
  have eS := enters_of Try.func85 (by kernel_rfl) rfl
  have HR0 : Hid (DnRel w base B bm sv L N i0 n i0 L w) := ⟨Nat.le_refl _, ⟨fun c h0 hn' hm hp => hd.a c h0 hn' (Or.inl (hm.resolve_right (fun e => e rfl))) hp, hd.b⟩, List.Perm.refl _, fun _ => rfl, fun _ _ => rfl, h, Turn.of_below (Below.refl _ _)⟩
  clear h hd
  go_enter Try.func38, Try.ntmps38
  go_wp2_with fail
  go_loopw [7] (fun v wr => ∃ (i : Nat) (L1 : List It), v = .int .i64 i ∧ i ≤ 1000000 ∧ Hid (DnRel w base B bm sv L N i0 n i L1 wr)) (fun v _ => n - (intOf v).toNat)
  case atStart => exact ⟨i0, L, rfl, hi0, HR0⟩
  case round =>
    obtain ⟨i, L1, rfl, hi, HR⟩ := hrel
    have hl1 : L1.length = L.length := HR.out.perm.length_eq
    obtain ⟨j1, hj1⟩ : ∃ j1, 2 * i + 1 = j1 := ⟨_, rfl⟩
    obtain ⟨j2, hj2⟩ : ∃ j2, j1 + 1 = j2 := ⟨_, rfl⟩
    have wm : IntKind.i64.wrap (2 * (i : Int)) = 2 * (i : Int) := IntWalk.i64_in _ (by omega)
    have wa : IntKind.i64.wrap (2 * (i : Int) + 1) = (j1 : Int) := by rw [IntWalk.i64_in _ (by omega)]; omega
    have wb : IntKind.i64.wrap ((j1 : Int) + 1) = (j2 : Int) := by rw [IntWalk.i64_in _ (by omega)]; omega
    by_cases h1 : n ≤ j1
    · have d1 : decide ((n : Int) ≤ (j1 : Int)) = true := decide_eq_true (by omega)
      have HE := Lib.hid (HR.out.fin (fun c h0 hn' hp => by omega))
      go_wp2_with fail
      go_ret
      exact HE.out
    have d1 : decide ((n : Int) ≤ (j1 : Int)) = false := decide_eq_false (by omega)
    have d2 : decide ((j1 : Int) < 0) = false := decide_eq_false (by omega)
    obtain ⟨x, hx⟩ : ∃ x, L1[i]? = some x := ⟨_, List.getElem?_eq_getElem (by omega)⟩
    obtain ⟨y1, hy1⟩ : ∃ x, L1[j1]? = some x := ⟨_, List.getElem?_eq_getElem (by omega)⟩
    have HX := Lib.hid hx
    have HY1 := Lib.hid hy1
    have HL1 := Lib.hid hl1
    have HJ1 := Lib.hid hj1
    by_cases h2 : j2 < n
    · obtain ⟨y2, hy2⟩ : ∃ x, L1[j2]? = some x := ⟨_, List.getElem?_eq_getElem (by omega)⟩
      have HY2 := Lib.hid hy2
      have d3 : decide ((j2 : Int) < (n : Int)) = true := decide_eq_true (by omega)
      have HC : Hid (∀ W, PAt W base B bm sv L1 N → Calls Try.prog 82 #[.pointer (some ⟨B, 0, none⟩), .int .i64 j2, .int .i64 j1] W fun e w' => e = .returned (.bool (decide (ltK y2.ky y1.ky))) ∧ Below W.heap.size W w') := fun W hW => less_ok base B bm sv L1 N j2 j1 y2 y1 HY2.out HY1.out W hW
      clear hx hy1 hy2 hl1
      go_wp2_with fail
      with_reducible refine (HC.out _ HR.out.at_).mono ?_
      rintro e w2 ⟨rfl, hb2⟩
      have HR2 := Lib.hid (HR.out.after hb2)
      by_cases hlt : ltK y2.ky y1.ky
      · have e1 : decide (ltK y2.ky y1.ky) = true := decide_eq_true hlt
        rw [e1]
        have HMin : Hid (∀ c, 0 < c → c < n → (c - 1) / 2 = i → ¬ ltK (gK L1 c) (gK L1 j2)) := fun c h0 hn' hp => by
          have := HJ1.out
          have : c = j1 ∨ c = j2 := by omega
          rcases this with rfl | rfl
          · rw [gK_at HY1.out, gK_at HY2.out]; exact ltK_asym hlt
          · exact ltK_irrefl _
        clear hlt e1 hb2
        go_wp2_with fail
        with_reducible refine (less_ok base B bm sv L1 N j2 i y2 x HY2.out HX.out _ HR2.out.at_).mono ?_
        rintro e w3 ⟨rfl, hb3⟩
        have HR3 := Lib.hid (HR2.out.after hb3)
        clear hb3
        by_cases hl : ltK y2.ky x.ky
        · have e2 : decide (ltK y2.ky x.ky) = true := decide_eq_true hl
          rw [e2]
          have HLt := Lib.hid hl
          clear hl e2
          go_wp2_with fail
          with_reducible refine (swap_ok base B bm sv L1 N i j2 x y2 HX.out HY2.out _ HR3.out.at_).mono ?_
          rintro e w4 ⟨rfl, hA, ht⟩
          have HR4 : Hid (DnRel w base B bm sv L N i0 n j2 (swapL L1 i j2 x y2) w4) := HR3.out.next HX.out HY2.out (by omega) (by omega) (by have := HJ1.out; omega) HLt.out HMin.out hA ht
          clear hA ht
          go_wp2_with fail
          go_roundw
          case rel => exact ⟨j2, _, rfl, by have := HL1.out; omega, HR4⟩
          case measure => have := HJ1.out; simp [intOf]; omega
        · have e2 : decide (ltK y2.ky x.ky) = false := decide_eq_false hl
          rw [e2]
          have HE : Hid (DownEnd w base B bm sv L N i0 n (.returned (.bool (decide (i0 < i)))) w3) := HR3.out.fin (fun c h0 hn' hp => by
            have := HMin.out c h0 hn' hp
            rw [gK_at HX.out]
            rw [gK_at HY2.out] at this
            exact ltK_neg this hl)
          clear hl e2
          go_wp2_with fail
          go_ret
          exact HE.out
      · have e1 : decide (ltK y2.ky y1.ky) = false := decide_eq_false hlt
        rw [e1]
        have HMin : Hid (∀ c, 0 < c → c < n → (c - 1) / 2 = i → ¬ ltK (gK L1 c) (gK L1 j1)) := fun c h0 hn' hp => by
          have := HJ1.out
          have : c = j1 ∨ c = j2 := by omega
          rcases this with rfl | rfl
          · exact ltK_irrefl _
          · rw [gK_at HY1.out, gK_at HY2.out]; exact hlt
        clear hlt e1 hb2
        go_wp2_with fail
        with_reducible refine (less_ok base B bm sv L1 N j1 i y1 x HY1.out HX.out _ HR2.out.at_).mono ?_
        rintro e w3 ⟨rfl, hb3⟩
        have HR3 := Lib.hid (HR2.out.after hb3)
        clear hb3
        by_cases hl : ltK y1.ky x.ky
        · have e2 : decide (ltK y1.ky x.ky) = true := decide_eq_true hl
          rw [e2]
          have HLt := Lib.hid hl
          clear hl e2
          go_wp2_with fail
          with_reducible refine (swap_ok base B bm sv L1 N i j1 x y1 HX.out HY1.out _ HR3.out.at_).mono ?_
          rintro e w4 ⟨rfl, hA, ht⟩
          have HR4 : Hid (DnRel w base B bm sv L N i0 n j1 (swapL L1 i j1 x y1) w4) := HR3.out.next HX.out HY1.out (by omega) (by omega) (by have := HJ1.out; omega) HLt.out HMin.out hA ht
          clear hA ht
          go_wp2_with fail
          go_roundw
          case rel => exact ⟨j1, _, rfl, by have := HL1.out; omega, HR4⟩
          case measure => have := HJ1.out; simp [intOf]; omega
        · have e2 : decide (ltK y1.ky x.ky) = false := decide_eq_false hl
          rw [e2]
          have HE : Hid (DownEnd w base B bm sv L N i0 n (.returned (.bool (decide (i0 < i)))) w3) := HR3.out.fin (fun c h0 hn' hp => by
            have := HMin.out c h0 hn' hp
            rw [gK_at HX.out]
            rw [gK_at HY1.out] at this
            exact ltK_neg this hl)
          clear hl e2
          go_wp2_with fail
          go_ret
          exact HE.out
    · have d3 : decide ((j2 : Int) < (n : Int)) = false := decide_eq_false (by omega)
      have HMin : Hid (∀ c, 0 < c → c < n → (c - 1) / 2 = i → ¬ ltK (gK L1 c) (gK L1 j1)) := fun c h0 hn' hp => by
        have : c = j1 := by omega
        subst this
        exact ltK_irrefl _
      have HR2 := HR
      clear hx hy1 hl1
      go_wp2_with fail
      with_reducible refine (less_ok base B bm sv L1 N j1 i y1 x HY1.out HX.out _ HR2.out.at_).mono ?_
      rintro e w3 ⟨rfl, hb3⟩
      have HR3 := Lib.hid (HR2.out.after hb3)
      clear hb3
      by_cases hl : ltK y1.ky x.ky
      · have e2 : decide (ltK y1.ky x.ky) = true := decide_eq_true hl
        rw [e2]
        have HLt := Lib.hid hl
        clear hl e2
        go_wp2_with fail
        with_reducible refine (swap_ok base B bm sv L1 N i j1 x y1 HX.out HY1.out _ HR3.out.at_).mono ?_
        rintro e w4 ⟨rfl, hA, ht⟩
        have HR4 : Hid (DnRel w base B bm sv L N i0 n j1 (swapL L1 i j1 x y1) w4) := HR3.out.next HX.out HY1.out (by omega) (by omega) (by have := HJ1.out; omega) HLt.out HMin.out hA ht
        clear hA ht
        go_wp2_with fail
        go_roundw
        case rel => exact ⟨j1, _, rfl, by have := HL1.out; omega, HR4⟩
        case measure => have := HJ1.out; simp [intOf]; omega
      · have e2 : decide (ltK y1.ky x.ky) = false := decide_eq_false hl
        rw [e2]
        have HE : Hid (DownEnd w base B bm sv L N i0 n (.returned (.bool (decide (i0 < i)))) w3) := HR3.out.fin (fun c h0 hn' hp => by
          have := HMin.out c h0 hn' hp
          rw [gK_at HX.out]
          rw [gK_at HY1.out] at this
          exact ltK_neg this hl)
        clear hl e2
        go_wp2_with fail
        go_ret
        exact HE.out

end Go.Proofs.Ytgcncnmkfpfccaa
