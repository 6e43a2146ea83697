/- Package facts: Choose, Fixing, Choice. -/
import Derived.Test.YtfimgdjpnlcckaaFacC
namespace Go.Proofs.Ytfimgdjpnlcckaa
open Go.RowKit
set_option linter.unusedVariables false
set_option linter.unusedSimpArgs false



set_option maxHeartbeats 2000000 in
set_option maxRecDepth 100000 in
theorem choose_ok (p ba bc : Nat) (A : List Fx) (C : List Ch) (x : Ch) (w : World) (h : FactsAt w p ba bc A C) :
    Calls Try.prog 27 #[.pointer (some ⟨p, 0, none⟩), .agg (encH x).toArray] w (ChooseEnd w p ba bc A C x) := by
  obtain ⟨k, d, q⟩ := x
  have HF := Lib.hid h
  have hp := h.blk.lt
  have hba := h.mc.lt
  obtain ⟨V, hV⟩ : ∃ V, wrongH ⟨k, d, q⟩ = V := ⟨_, rfl⟩
  have HEND : Hid (ChooseEnd w p ba bc A C ⟨k, d, q⟩ = fun e w' => e = .returned (.int .i64 V) ∧ w.grownBy w' (some bc) ∧ FactsAt w' p ba bc A (if V = 0 then putK Ch.ky C ⟨k, d, q⟩ else C)) := by
    show _ = _
    unfold ChooseEnd
    rw [hV]
  unfold wrongH at hV
  dsimp only at hV
  clear h
  show Calls _ _ #[_, .agg #[.int .i64 k, .int .i64 d, .int .i64 q]] _ _
  by_cases h1 : q = 1
  · subst h1
    have HM := Lib.hid (fun W => may_ok p k d true W)
    rw [show decide ((1 : Int) = 1 ∨ (1 : Int) = 2) = true from rfl] at hV
    rw [hV] at HM
    clear hV
    by_cases h2 : V = 0
    · subst h2
      obtain ⟨q, hq⟩ : ∃ q : Int, (1 : Int) = q := ⟨_, rfl⟩
      rw [hq] at HEND ⊢
      have h1q : (q == 1) = true := by simp [← hq]
      clear hq
      go_enter Try.func27, Try.ntmps27
      go_wp2_with fail
      with_reducible refine (HM.out _).mono ?_
      rintro e w1 ⟨rfl, rfl⟩
      have k2 : Blk (w.alloc (.cells #[.int .i64 k, .int .i64 d, .int .i64 q] 45)) w.heap.size #[.int .i64 k, .int .i64 d, .int .i64 q] 45 := Blk.new _ _ _
      have b1 := ((RowKit.Below.refl w.heap.size w).alloc (Nat.le_refl _) (.cells #[.int .i64 k, .int .i64 d, .int .i64 q] 45))
      obtain ⟨w2, hw2⟩ : ∃ w2, w.alloc (.cells #[.int .i64 k, .int .i64 d, .int .i64 q] 45) = w2 := ⟨_, rfl⟩
      rw [hw2] at k2 b1 ⊢
      have F2 := Lib.hid (HF.out.after b1)
      have B2 := Lib.hid b1
      clear hw2
      have c0 : w2.cell? ⟨p, 1, none⟩ = some (.map (some bc)) := F2.out.blk.cell 1 rfl
      have c1 : w2.cell? ⟨w.heap.size, 0, none⟩ = some (.int .i64 k) := k2.cell 0 rfl
      have c2 : w2.cell? ⟨w.heap.size, 1, none⟩ = some (.int .i64 d) := k2.cell 1 rfl
      have c3 : w2.cell? ⟨w.heap.size, 2, none⟩ = some (.int .i64 q) := k2.cell 2 rfl
      clear b1 k2
      have hmx : Try.prog.follows .mixedOrders = true := by kernel_rfl
      go_wp2_with fail
      go_still_tail 10, hmx
      refine wpList_store _ rfl _ _ _ 74 rfl keyP Try.underlying74 rfl (F2.out.after ((RowKit.Below.refl _ _).drew)).mc (plV (k, d)) (.agg #[.int .i64 k, .int .i64 d, .int .i64 q]) rfl rfl ⟨_, rfl⟩ ?_
      intro w3 hm3 hg3 hs3
      go_wp2_with fail
      rw [HEND.out]
      go_ret
      have G3 : w2.grownBy w3 (some bc) := (below_row ((RowKit.Below.refl _ _).drew) _).trans hg3
      have F3 := F2.out
      refine ⟨rfl, (below_row B2.out _).trans G3, ?_⟩
      refine ⟨F3.blk.grown G3 (by have := F3.pa.2; simpa using fun e => this e.symm), F3.ma.kept G3 (by simpa using fun e => F3.ne e.symm), ?_, F3.ra, putK_rising F3.rc, F3.ne⟩
      rw [if_pos trivial]
      exact hm3.congr (entH_put F3.rc (x := ⟨k, d, q⟩))
    · obtain ⟨q, hq⟩ : ∃ q : Int, (1 : Int) = q := ⟨_, rfl⟩
      rw [hq] at HEND ⊢
      have h1q : (q == 1) = true := by simp [← hq]
      clear hq
      have h2' : (V == 0) = false := by simpa using h2
      rw [if_neg h2] at HEND
      go_enter Try.func27, Try.ntmps27
      go_wp2_with fail
      with_reducible refine (HM.out _).mono ?_
      rintro e w1 ⟨rfl, rfl⟩
      go_wp2_with fail
      rw [HEND.out]
      go_ret
      have B1 := ((RowKit.Below.refl w.heap.size w).alloc (Nat.le_refl _) (.cells #[.int .i64 k, .int .i64 d, .int .i64 q] 45))
      exact ⟨rfl, below_row B1 _, HF.out.after B1⟩
  have h1q : (q == 1) = false := by simpa using h1
  by_cases h3 : q = 2
  · subst h3
    have HM := Lib.hid (fun W => may_ok p k d true W)
    rw [show decide ((2 : Int) = 1 ∨ (2 : Int) = 2) = true from rfl] at hV
    rw [hV] at HM
    clear hV h1 h1q
    by_cases h2 : V = 0
    · subst h2
      obtain ⟨q, hq⟩ : ∃ q : Int, (2 : Int) = q := ⟨_, rfl⟩
      rw [hq] at HEND ⊢
      have h1q : (q == 1) = false := by simp [← hq]
      have h2q : (q == 2) = true := by simp [← hq]
      clear hq
      go_enter Try.func27, Try.ntmps27
      go_wp2_with fail
      with_reducible refine (HM.out _).mono ?_
      rintro e w1 ⟨rfl, rfl⟩
      have k2 : Blk (w.alloc (.cells #[.int .i64 k, .int .i64 d, .int .i64 q] 45)) w.heap.size #[.int .i64 k, .int .i64 d, .int .i64 q] 45 := Blk.new _ _ _
      have b1 := ((RowKit.Below.refl w.heap.size w).alloc (Nat.le_refl _) (.cells #[.int .i64 k, .int .i64 d, .int .i64 q] 45))
      obtain ⟨w2, hw2⟩ : ∃ w2, w.alloc (.cells #[.int .i64 k, .int .i64 d, .int .i64 q] 45) = w2 := ⟨_, rfl⟩
      rw [hw2] at k2 b1 ⊢
      have F2 := Lib.hid (HF.out.after b1)
      have B2 := Lib.hid b1
      clear hw2
      have c0 : w2.cell? ⟨p, 1, none⟩ = some (.map (some bc)) := F2.out.blk.cell 1 rfl
      have c1 : w2.cell? ⟨w.heap.size, 0, none⟩ = some (.int .i64 k) := k2.cell 0 rfl
      have c2 : w2.cell? ⟨w.heap.size, 1, none⟩ = some (.int .i64 d) := k2.cell 1 rfl
      have c3 : w2.cell? ⟨w.heap.size, 2, none⟩ = some (.int .i64 q) := k2.cell 2 rfl
      clear b1 k2
      have hmx : Try.prog.follows .mixedOrders = true := by kernel_rfl
      go_wp2_with fail
      go_still_tail 10, hmx
      refine wpList_store _ rfl _ _ _ 74 rfl keyP Try.underlying74 rfl (F2.out.after ((RowKit.Below.refl _ _).drew)).mc (plV (k, d)) (.agg #[.int .i64 k, .int .i64 d, .int .i64 q]) rfl rfl ⟨_, rfl⟩ ?_
      intro w3 hm3 hg3 hs3
      go_wp2_with fail
      rw [HEND.out]
      go_ret
      have G3 : w2.grownBy w3 (some bc) := (below_row ((RowKit.Below.refl _ _).drew) _).trans hg3
      have F3 := F2.out
      refine ⟨rfl, (below_row B2.out _).trans G3, ?_⟩
      refine ⟨F3.blk.grown G3 (by have := F3.pa.2; simpa using fun e => this e.symm), F3.ma.kept G3 (by simpa using fun e => F3.ne e.symm), ?_, F3.ra, putK_rising F3.rc, F3.ne⟩
      rw [if_pos trivial]
      exact hm3.congr (entH_put F3.rc (x := ⟨k, d, q⟩))
    · obtain ⟨q, hq⟩ : ∃ q : Int, (2 : Int) = q := ⟨_, rfl⟩
      rw [hq] at HEND ⊢
      have h1q : (q == 1) = false := by simp [← hq]
      have h2q : (q == 2) = true := by simp [← hq]
      clear hq
      have h2' : (V == 0) = false := by simpa using h2
      rw [if_neg h2] at HEND
      go_enter Try.func27, Try.ntmps27
      go_wp2_with fail
      with_reducible refine (HM.out _).mono ?_
      rintro e w1 ⟨rfl, rfl⟩
      go_wp2_with fail
      rw [HEND.out]
      go_ret
      have B1 := ((RowKit.Below.refl w.heap.size w).alloc (Nat.le_refl _) (.cells #[.int .i64 k, .int .i64 d, .int .i64 q] 45))
      exact ⟨rfl, below_row B1 _, HF.out.after B1⟩
  have h2q : (q == 2) = false := by simpa using h3
  have HM := Lib.hid (fun W => may_ok p k d false W)
  rw [show decide (q = 1 ∨ q = 2) = false from decide_eq_false (by omega)] at hV
  rw [hV] at HM
  have h2 : V ≠ 0 := by rw [← hV]; unfold mayV; rw [if_pos (Or.inr (Or.inr rfl))]; decide
  clear hV h1 h3
  have h2' : (V == 0) = false := by simpa using h2
  rw [if_neg h2] at HEND
  go_enter Try.func27, Try.ntmps27
  go_wp2_with fail
  with_reducible refine (HM.out _).mono ?_
  rintro e w1 ⟨rfl, rfl⟩
  go_wp2_with fail
  rw [HEND.out]
  go_ret
  have B1 := ((RowKit.Below.refl w.heap.size w).alloc (Nat.le_refl _) (.cells #[.int .i64 k, .int .i64 d, .int .i64 q] 45))
  exact ⟨rfl, below_row B1 _, HF.out.after B1⟩

/-! ### look-ups -/
theorem look_in {k : KD} {A : List Fx} {x : Fx} (h : getK Fx.ky A k = some x) : (plV k, Value.agg (encX x).toArray) ∈ A.map entX := by
  obtain ⟨h1, rfl⟩ := getK_some h
  exact List.mem_map.2 ⟨x, h1, rfl⟩
theorem look_out {k : KD} {A : List Fx} (h : getK Fx.ky A k = none) : ∀ v, (plV k, v) ∉ A.map entX := fun v hv => by
  obtain ⟨x, h1, h2⟩ := List.mem_map.1 hv
  exact getK_none h x h1 (plV_inj (congrArg Prod.fst h2))
theorem lookH_in {k : KD} {A : List Ch} {x : Ch} (h : getK Ch.ky A k = some x) : (plV k, Value.agg (encH x).toArray) ∈ A.map entH := by
  obtain ⟨h1, rfl⟩ := getK_some h
  exact List.mem_map.2 ⟨x, h1, rfl⟩
theorem lookH_out {k : KD} {A : List Ch} (h : getK Ch.ky A k = none) : ∀ v, (plV k, v) ∉ A.map entH := fun v hv => by
  obtain ⟨x, h1, h2⟩ := List.mem_map.1 hv
  exact getK_none h x h1 (plV_inj (congrArg Prod.fst h2))

/-- What is known of a place. -/
def knownX (A : List Fx) (k : KD) : (Int × Int) × Bool := match getK Fx.ky A k with | none => ((0, 0), false) | some x => ((x.n, x.m), true)
def knownH (C : List Ch) (k : KD) : Int × Bool := match getK Ch.ky C k with | none => (0, false) | some x => (x.p, true)
def FixingEnd (w : World) (A : List Fx) (k : KD) (e : Ending) (w' : World) : Prop :=
  e = .returned (.tuple #[.agg #[.int .i64 (knownX A k).1.1, .int .i64 (knownX A k).1.2], .bool (knownX A k).2]) ∧ Below w.heap.size w w'
def ChoiceEnd (w : World) (C : List Ch) (k : KD) (e : Ending) (w' : World) : Prop :=
  e = .returned (.tuple #[.int .i64 (knownH C k).1, .bool (knownH C k).2]) ∧ Below w.heap.size w w'

set_option maxHeartbeats 2000000 in
set_option maxRecDepth 100000 in
theorem fixing_ok (p ba bc : Nat) (A : List Fx) (C : List Ch) (k d : Int) (w : World) (h : FactsAt w p ba bc A C) :
    Calls Try.prog 17 #[.pointer (some ⟨p, 0, none⟩), .int .i64 k, .int .i64 d] w (FixingEnd w A (k, d)) := by
  have HF := Lib.hid h
  have c0 : ∀ o, (w.alloc o).cell? ⟨p, 0, none⟩ = some (.map (some ba)) := fun o => (h.blk.grown (World.grownBy_alloc w o none) (by simp)).cell 0 rfl
  obtain ⟨V, hV⟩ : ∃ V, knownX A (k, d) = V := ⟨_, rfl⟩
  have HEND : Hid (FixingEnd w A (k, d) = fun e w' => e = .returned (.tuple #[.agg #[.int .i64 V.1.1, .int .i64 V.1.2], .bool V.2]) ∧ Below w.heap.size w w') := by
    show _ = _
    unfold FixingEnd
    rw [hV]
  unfold knownX at hV
  have B1 : ∀ {w' : World}, Below w.heap.size w w' → True := fun _ => trivial
  cases hg : getK Fx.ky A (k, d) with
  | none =>
    rw [hg] at hV
    dsimp only at hV
    subst hV
    have HO := Lib.hid (look_out hg)
    have HZ : Hid (∀ w, (zeroValue 41).run Try.prog w = .ok (.agg #[.int .i64 0, .int .i64 0, .int .i64 0, .int .i64 0]) w) := fun w => Try.zeroValue41 w
    clear h hg
    go_enter Try.func17, Try.ntmps17
    go_wp2_with (at_lookup; refine wpList_look_out _ rfl _ _ 72 true rfl keyP Try.underlying72 HZ.out rfl (HF.out.ma.kept (World.grownBy_alloc _ _ none) (by simp)) (plV (k, d)) rfl ⟨_, rfl⟩ HO.out ?_)
    rw [HEND.out]
    refine bodyPost_ret (v := .tuple #[.agg #[.int .i64 0, .int .i64 0], .bool false]) ?_ rfl ?_
    · simp [results, Try.results17, go_sem]
    exact ⟨rfl, (((RowKit.Below.refl w.heap.size w).alloc (Nat.le_refl _) _).alloc (by simp) _)⟩
  | some x =>
    rw [hg] at hV
    dsimp only at hV
    subst hV
    have HO := Lib.hid (look_in hg)
    obtain ⟨xk, xd, xn, xm⟩ := x
    clear h hg
    go_enter Try.func17, Try.ntmps17
    go_wp2_with (at_lookup; refine wpList_look_in _ rfl _ _ 72 true rfl keyP Try.underlying72 rfl (HF.out.ma.kept (World.grownBy_alloc _ _ none) (by simp)) (plV (k, d)) (.agg #[.int .i64 xk, .int .i64 xd, .int .i64 xn, .int .i64 xm]) rfl ⟨_, rfl⟩ HO.out ?_)
    rw [HEND.out]
    refine bodyPost_ret (v := .tuple #[.agg #[.int .i64 xn, .int .i64 xm], .bool true]) ?_ rfl ?_
    · simp [results, Try.results17, go_sem]
    exact ⟨rfl, (((RowKit.Below.refl w.heap.size w).alloc (Nat.le_refl _) _).alloc (by simp) _)⟩

set_option maxHeartbeats 2000000 in
set_option maxRecDepth 100000 in
theorem choice_ok (p ba bc : Nat) (A : List Fx) (C : List Ch) (k d : Int) (w : World) (h : FactsAt w p ba bc A C) :
    Calls Try.prog 19 #[.pointer (some ⟨p, 0, none⟩), .int .i64 k, .int .i64 d] w (ChoiceEnd w C (k, d)) := by
  have HF := Lib.hid h
  have c0 : w.cell? ⟨p, 1, none⟩ = some (.map (some bc)) := h.blk.cell 1 rfl
  obtain ⟨V, hV⟩ : ∃ V, knownH C (k, d) = V := ⟨_, rfl⟩
  have HEND : Hid (ChoiceEnd w C (k, d) = fun e w' => e = .returned (.tuple #[.int .i64 V.1, .bool V.2]) ∧ Below w.heap.size w w') := by
    show _ = _
    unfold ChoiceEnd
    rw [hV]
  unfold knownH at hV
  cases hg : getK Ch.ky C (k, d) with
  | none =>
    rw [hg] at hV
    dsimp only at hV
    subst hV
    have HO := Lib.hid (lookH_out hg)
    have HZ : Hid (∀ w, (zeroValue 45).run Try.prog w = .ok (.agg #[.int .i64 0, .int .i64 0, .int .i64 0]) w) := fun w => Try.zeroValue45 w
    clear h hg
    go_enter Try.func19, Try.ntmps19
    go_wp2_with (at_lookup; refine wpList_look_out _ rfl _ _ 74 true rfl keyP Try.underlying74 HZ.out rfl HF.out.mc (plV (k, d)) rfl ⟨_, rfl⟩ HO.out ?_)
    rw [HEND.out]
    go_ret2
    exact ⟨rfl, ((RowKit.Below.refl w.heap.size w).alloc (Nat.le_refl _) _)⟩
  | some x =>
    rw [hg] at hV
    dsimp only at hV
    subst hV
    have HO := Lib.hid (lookH_in hg)
    obtain ⟨xk, xd, xp⟩ := x
    clear h hg
    go_enter Try.func19, Try.ntmps19
    go_wp2_with (at_lookup; refine wpList_look_in _ rfl _ _ 74 true rfl keyP Try.underlying74 rfl HF.out.mc (plV (k, d)) (.agg #[.int .i64 xk, .int .i64 xd, .int .i64 xp]) rfl ⟨_, rfl⟩ HO.out ?_)
    rw [HEND.out]
    go_ret2
    exact ⟨rfl, ((RowKit.Below.refl w.heap.size w).alloc (Nat.le_refl _) _)⟩

/-! ### nil facts -/
theorem fix_nil (x : Fx) (w : World) : Calls Try.prog 26 #[.pointer none, .agg (encX x).toArray] w fun e w' => e = .returned (.int .i64 2) ∧ Below w.heap.size w w' := by
  obtain ⟨k, d, n, m⟩ := x
  show Calls _ _ #[_, .agg #[.int .i64 k, .int .i64 d, .int .i64 n, .int .i64 m]] _ _
  go_enter Try.func26, Try.ntmps26
  go_wp2
  go_ret
  exact ⟨rfl, ((RowKit.Below.refl w.heap.size w).alloc (Nat.le_refl _) _)⟩
theorem choose_nil (x : Ch) (w : World) : Calls Try.prog 27 #[.pointer none, .agg (encH x).toArray] w fun e w' => e = .returned (.int .i64 2) ∧ Below w.heap.size w w' := by
  obtain ⟨k, d, q⟩ := x
  show Calls _ _ #[_, .agg #[.int .i64 k, .int .i64 d, .int .i64 q]] _ _
  have B := ((RowKit.Below.refl w.heap.size w).alloc (Nat.le_refl _) (.cells #[.int .i64 k, .int .i64 d, .int .i64 q] 45))
  by_cases h1 : q = 1
  · have h1' : (q == 1) = true := by simpa using h1
    clear h1
    go_enter Try.func27, Try.ntmps27
    go_wp2
    go_ret
    exact ⟨rfl, B⟩
  · have h1' : (q == 1) = false := by simpa using h1
    clear h1
    go_enter Try.func27, Try.ntmps27
    go_wp2
    all_goals (go_ret; exact ⟨rfl, B⟩)
theorem fixing_nil (k d : Int) (w : World) : Calls Try.prog 17 #[.pointer none, .int .i64 k, .int .i64 d] w fun e w' => e = .returned (.tuple #[.agg #[.int .i64 0, .int .i64 0], .bool false]) ∧ Below w.heap.size w w' := by
  go_enter Try.func17, Try.ntmps17
  go_wp2
  refine bodyPost_ret (v := .tuple #[.agg #[.int .i64 0, .int .i64 0], .bool false]) ?_ rfl ?_
  · simp [results, Try.results17, go_sem]
  exact ⟨rfl, ((RowKit.Below.refl w.heap.size w).alloc (Nat.le_refl _) _)⟩
theorem choice_nil (k d : Int) (w : World) : Calls Try.prog 19 #[.pointer none, .int .i64 k, .int .i64 d] w fun e w' => e = .returned (.tuple #[.int .i64 0, .bool false]) ∧ w' = w := by
  go_enter Try.func19, Try.ntmps19
  go_wp2
  go_ret2
  exact ⟨rfl, rfl⟩

end Go.Proofs.Ytfimgdjpnlcckaa
