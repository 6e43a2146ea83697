/- Package facts: may, Fix, Choose, Fixing, Choice. -/
import Derived.Test.YtkloijkfaooodaaFacB
namespace Go.Proofs.Ytkloijkfaooodaa
open Go.RowKit
set_option linter.unusedVariables false
set_option linter.unusedSimpArgs false

/-- What is wrong with a key and a day. -/
def mayV (k d : Int) (r : Bool) : Int := if k < 0 ∨ 63 < k ∨ r = false then 10 else if d < 0 ∨ 73048 < d then 18 else 0
set_option maxHeartbeats 1000000 in
theorem may_ok (p : Nat) (k d : Int) (r : Bool) (w : World) : Calls Try.prog 60 #[.pointer (some ⟨p, 0, none⟩), .int .i64 k, .int .i64 d, .bool r] w fun e w' => e = .returned (.int .i64 (mayV k d r)) ∧ w' = w := by
  obtain ⟨V, hV⟩ : ∃ V, mayV k d r = V := ⟨_, rfl⟩
  rw [hV]
  unfold mayV at hV
  by_cases h1 : k < 0
  · rw [if_pos (Or.inl h1)] at hV
    subst hV
    go_enter Try.func60, Try.ntmps60
    go_wp2_with fail
    go_ret
    exact ⟨rfl, rfl⟩
  have h1' : decide (k < 0) = false := decide_eq_false h1
  by_cases h2 : 63 < k
  · rw [if_pos (Or.inr (Or.inl h2))] at hV
    subst hV
    clear h1
    go_enter Try.func60, Try.ntmps60
    go_wp2_with fail
    go_ret
    exact ⟨rfl, rfl⟩
  have h2' : decide (63 < k) = false := decide_eq_false h2
  cases r with
  | false =>
    rw [if_pos (Or.inr (Or.inr rfl))] at hV
    subst hV
    clear h1 h2
    go_enter Try.func60, Try.ntmps60
    go_wp2_with fail
    go_ret
    exact ⟨rfl, rfl⟩
  | true =>
    rw [if_neg (by simp; omega)] at hV
    clear h1 h2
    by_cases h3 : d < 0
    · rw [if_pos (Or.inl h3)] at hV
      subst hV
      have hmx : Try.prog.follows .mixedOrders = true := by kernel_rfl
      go_enter Try.func60, Try.ntmps60
      go_wp2_with fail
      go_ret
      exact ⟨rfl, rfl⟩
    have h3' : decide (d < 0) = false := decide_eq_false h3
    by_cases h4 : 73048 < d
    · rw [if_pos (Or.inr h4)] at hV
      subst hV
      clear h3
      have hmx : Try.prog.follows .mixedOrders = true := by kernel_rfl
      go_enter Try.func60, Try.ntmps60
      go_wp2_with fail
      go_ret
      exact ⟨rfl, rfl⟩
    have h4' : decide (73048 < d) = false := decide_eq_false h4
    rw [if_neg (by omega)] at hV
    subst hV
    clear h3 h4
    go_enter Try.func60, Try.ntmps60
    go_wp2_with fail
    go_ret
    exact ⟨rfl, rfl⟩

/-- An int64. -/
def I64 (n : Int) : Prop := -9223372036854775808 ≤ n ∧ n ≤ 9223372036854775807
/-- What is wrong with a fixing. -/
def wrongX (x : Fx) : Int := if mayV x.k x.d true = 0 then ratV x.n x.m else mayV x.k x.d true
/-- What is wrong with a choice. -/
def wrongH (x : Ch) : Int := mayV x.k x.d (decide (x.p = 1 ∨ x.p = 2))
def FixEnd (w : World) (p ba bc : Nat) (A : List Fx) (C : List Ch) (x : Fx) (e : Ending) (w' : World) : Prop :=
  e = .returned (.int .i64 (wrongX x)) ∧ w.grownBy w' (some ba) ∧ FactsAt w' p ba bc (if wrongX x = 0 then putK Fx.ky A x else A) C
def ChooseEnd (w : World) (p ba bc : Nat) (A : List Fx) (C : List Ch) (x : Ch) (e : Ending) (w' : World) : Prop :=
  e = .returned (.int .i64 (wrongH x)) ∧ w.grownBy w' (some bc) ∧ FactsAt w' p ba bc A (if wrongH x = 0 then putK Ch.ky C x else C)

set_option maxHeartbeats 2000000 in
set_option maxRecDepth 100000 in
theorem fix_ok (p ba bc : Nat) (A : List Fx) (C : List Ch) (x : Fx) (hn : I64 x.n) (hm : I64 x.m) (w : World) (h : FactsAt w p ba bc A C) :
    Calls Try.prog 46 #[.pointer (some ⟨p, 0, none⟩), .agg (encX x).toArray] w (FixEnd w p ba bc A C x) := by
  obtain ⟨k, d, n, m⟩ := x
  have HF := Lib.hid h
  have hp := h.blk.lt
  have hba := h.ma.lt
  obtain ⟨V, hV⟩ : ∃ V, wrongX ⟨k, d, n, m⟩ = V := ⟨_, rfl⟩
  have HEND : Hid (FixEnd w p ba bc A C ⟨k, d, n, m⟩ = fun e w' => e = .returned (.int .i64 V) ∧ w.grownBy w' (some ba) ∧ FactsAt w' p ba bc (if V = 0 then putK Fx.ky A ⟨k, d, n, m⟩ else A) C) := by
    show _ = _
    unfold FixEnd
    rw [hV]
  have HR := Lib.hid (fun W => ratchk_ok n m hn.1 hn.2 hm.1 hm.2 W)
  have HM := Lib.hid (fun W => may_ok p k d true W)
  unfold wrongX at hV
  dsimp only at hV
  clear h hn hm
  show Calls _ _ #[_, .agg #[.int .i64 k, .int .i64 d, .int .i64 n, .int .i64 m]] _ _
  by_cases h1 : mayV k d true = 0
  · rw [if_pos h1] at hV
    rw [hV] at HR
    rw [h1] at HM
    by_cases h2 : V = 0
    · subst h2
      clear hV h1
      have hmx : Try.prog.follows .mixedOrders = true := by kernel_rfl
      go_enter Try.func46, Try.ntmps46
      go_wp2_with fail
      with_reducible refine (HM.out _).mono ?_
      rintro e w1 ⟨rfl, rfl⟩
      go_wp2_with fail
      with_reducible refine (HR.out _).mono ?_
      rintro e w2 ⟨rfl, hb2⟩
      have k1 : Blk (w.alloc (.cells #[.int .i64 k, .int .i64 d, .int .i64 n, .int .i64 m] 86)) w.heap.size #[.int .i64 k, .int .i64 d, .int .i64 n, .int .i64 m] 86 := Blk.new _ _ _
      have k2 := k1.after hb2
      have F1 := HF.out.after ((RowKit.Below.refl w.heap.size w).alloc (Nat.le_refl _) (.cells #[.int .i64 k, .int .i64 d, .int .i64 n, .int .i64 m] 86))
      have F2 := Lib.hid (F1.after hb2)
      have B2 := Lib.hid (((RowKit.Below.refl w.heap.size w).alloc (Nat.le_refl _) (.cells #[.int .i64 k, .int .i64 d, .int .i64 n, .int .i64 m] 86)).trans (hb2.mono (by simp)))
      have c0 : w2.cell? ⟨p, 0, none⟩ = some (.map (some ba)) := F2.out.blk.cell 0 rfl
      have c1 : w2.cell? ⟨w.heap.size, 0, none⟩ = some (.int .i64 k) := k2.cell 0 rfl
      have c2 : w2.cell? ⟨w.heap.size, 1, none⟩ = some (.int .i64 d) := k2.cell 1 rfl
      have c3 : w2.cell? ⟨w.heap.size, 2, none⟩ = some (.int .i64 n) := k2.cell 2 rfl
      have c4 : w2.cell? ⟨w.heap.size, 3, none⟩ = some (.int .i64 m) := k2.cell 3 rfl
      clear hb2 k1 k2 F1
      go_wp2_with fail
      go_still_tail 10, hmx
      refine wpList_store _ rfl _ _ _ 124 rfl keyP Try.underlying124 rfl (F2.out.after ((RowKit.Below.refl _ _).drew)).ma (plV (k, d)) (.agg #[.int .i64 k, .int .i64 d, .int .i64 n, .int .i64 m]) rfl rfl ⟨_, rfl⟩ ?_
      intro w3 hm3 hg3 hs3
      go_wp2_with fail
      rw [HEND.out]
      go_ret
      have G3 : w2.grownBy w3 (some ba) := (below_row ((RowKit.Below.refl _ _).drew) _).trans hg3
      have F3 := F2.out
      refine ⟨rfl, (below_row B2.out _).trans G3, ?_⟩
      refine ⟨F3.blk.grown G3 (by have := F3.pa.1; simpa using fun e => this e.symm), ?_, F3.mc.kept G3 (by simpa using F3.ne), putK_rising F3.ra, F3.rc, F3.ne⟩
      rw [if_pos trivial]
      exact hm3.congr (entX_put F3.ra (x := ⟨k, d, n, m⟩))
    · have h2' : (V == 0) = false := by simpa using h2
      rw [if_neg h2] at HEND
      clear hV h1
      have hmx : Try.prog.follows .mixedOrders = true := by kernel_rfl
      go_enter Try.func46, Try.ntmps46
      go_wp2_with fail
      with_reducible refine (HM.out _).mono ?_
      rintro e w1 ⟨rfl, rfl⟩
      go_wp2_with fail
      with_reducible refine (HR.out _).mono ?_
      rintro e w2 ⟨rfl, hb2⟩
      have F1 := HF.out.after ((RowKit.Below.refl w.heap.size w).alloc (Nat.le_refl _) (.cells #[.int .i64 k, .int .i64 d, .int .i64 n, .int .i64 m] 86))
      have F2 := Lib.hid (F1.after hb2)
      have B2 := Lib.hid (((RowKit.Below.refl w.heap.size w).alloc (Nat.le_refl _) (.cells #[.int .i64 k, .int .i64 d, .int .i64 n, .int .i64 m] 86)).trans (hb2.mono (by simp)))
      clear hb2 F1
      go_wp2_with fail
      rw [HEND.out]
      go_ret
      exact ⟨rfl, below_row B2.out _, F2.out⟩
  · rw [if_neg h1] at hV
    rw [hV] at HM h1
    have h2' : (V == 0) = false := by simpa using h1
    rw [if_neg h1] at HEND
    clear hV
    go_enter Try.func46, Try.ntmps46
    go_wp2_with fail
    with_reducible refine (HM.out _).mono ?_
    rintro e w1 ⟨rfl, rfl⟩
    go_wp2_with fail
    rw [HEND.out]
    go_ret
    have B1 := ((RowKit.Below.refl w.heap.size w).alloc (Nat.le_refl _) (.cells #[.int .i64 k, .int .i64 d, .int .i64 n, .int .i64 m] 86))
    exact ⟨rfl, below_row B1 _, HF.out.after B1⟩

end Go.Proofs.Ytkloijkfaooodaa
