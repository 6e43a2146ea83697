/- The statement FactsFirst: its walk. -/
import Derived.Test.YtfimgdjpnlcckaaFacV
namespace Go.Proofs.Ytfimgdjpnlcckaa
open Go.RowKit
set_option linter.unusedVariables false
set_option linter.unusedSimpArgs false

theorem find_congr' {α : Type} {p q : α → Bool} : ∀ {l : List α}, (∀ x ∈ l, p x = q x) → l.find? p = l.find? q
  | [], _ => rfl
  | x :: l, h => by rw [List.find?_cons, List.find?_cons, h x (by simp), find_congr' fun y hy => h y (by simp [hy])]
theorem first_split {C : List Ch} (hC : Rising Ch.ky C) (k a b c p : Int) (hab : a ≤ b) (hbc : b < c) : firstH C k a c p = (firstH C k a b p).or (firstH C k (b + 1) c p) := by
  unfold firstH
  induction C with
  | nil => rfl
  | cons x C ih =>
    obtain ⟨h1, h2⟩ := List.pairwise_cons.1 hC
    rw [List.find?_cons, List.find?_cons, List.find?_cons]
    by_cases e : x.k = k ∧ x.p = p ∧ a ≤ x.d ∧ x.d ≤ c
    · obtain ⟨e1, e2, e3, e4⟩ := e
      rw [decide_eq_true (show x.k = k ∧ a ≤ x.d ∧ x.d ≤ c ∧ x.p = p from ⟨e1, e3, e4, e2⟩)]
      by_cases hx : x.d ≤ b
      · rw [decide_eq_true (show x.k = k ∧ a ≤ x.d ∧ x.d ≤ b ∧ x.p = p from ⟨e1, e3, hx, e2⟩)]
        rfl
      · rw [decide_eq_false (show ¬ (x.k = k ∧ a ≤ x.d ∧ x.d ≤ b ∧ x.p = p) from fun h => hx h.2.2.1), decide_eq_true (show x.k = k ∧ b + 1 ≤ x.d ∧ x.d ≤ c ∧ x.p = p from ⟨e1, by omega, e4, e2⟩)]
        have hn : C.find? (fun y => decide (y.k = k ∧ a ≤ y.d ∧ y.d ≤ b ∧ y.p = p)) = none := find_none fun y hy => decide_eq_false fun ⟨g1, g2, g3, g4⟩ => by
          have := h1 y hy
          unfold ltK Ch.ky at this
          dsimp only at this
          omega
        dsimp only
        rw [hn]
        rfl
    · rw [decide_eq_false (show ¬ (x.k = k ∧ a ≤ x.d ∧ x.d ≤ c ∧ x.p = p) from fun h => e ⟨h.1, h.2.2.2, h.2.1, h.2.2.1⟩), decide_eq_false (show ¬ (x.k = k ∧ a ≤ x.d ∧ x.d ≤ b ∧ x.p = p) from fun h => e ⟨h.1, h.2.2.2, h.2.1, by omega⟩), decide_eq_false (show ¬ (x.k = k ∧ b + 1 ≤ x.d ∧ x.d ≤ c ∧ x.p = p) from fun h => e ⟨h.1, h.2.2.2, by omega, h.2.2.1⟩)]
      exact ih h2
theorem first_is {C : List Ch} {k a b p : Int} {x : Ch} (h : firstH C k a b p = some x) : x ∈ C ∧ x.k = k ∧ a ≤ x.d ∧ x.d ≤ b ∧ x.p = p := by
  unfold firstH at h
  exact ⟨List.mem_of_find?_eq_some h, by simpa using List.find?_some h⟩
theorem known_of {C : List Ch} (hC : Rising Ch.ky C) {x : Ch} (hx : x ∈ C) : knownH C (x.k, x.d) = (x.p, true) := by
  unfold knownH
  rw [show getK Ch.ky C (x.k, x.d) = some x from getK_of hC hx]

set_option maxHeartbeats 8000000 in
set_option maxRecDepth 100000 in
theorem first_law (a : Option Addr) (cap : Nat) (l : List Tl) (t0 t1 u0 u1 u2 : Int) (hu1 : I64 u1) (hu2 : I64 u2) (hl : l.length ≤ 9223372036854775807) (w : World) (h : ToldAt w a l) :
    Calls Try.prog 6 #[.slice a l.length cap, .agg #[.int .i64 t0, .int .i64 t1], .agg #[.int .i64 u0, .int .i64 u1, .int .i64 u2]] w (SameEnd w true) := by
  obtain ⟨w0, hw0⟩ : ∃ w0, (w.alloc (.cells #[.int .i64 t0, .int .i64 t1] 47)).alloc (.cells #[.int .i64 u0, .int .i64 u1, .int .i64 u2] 61) = w0 := ⟨_, rfl⟩
  have hb0 : Below w.heap.size w w0 := by rw [← hw0]; exact ((Below.refl _ _).alloc (Nat.le_refl _) _).alloc (by simp) _
  have K0 : Hid (Blk w0 w.heap.size #[.int .i64 t0, .int .i64 t1] 47) := by rw [← hw0]; exact (Blk.new _ _ _).alloc _
  have L0 : Hid (Blk w0 (w.heap.size + 1) #[.int .i64 u0, .int .i64 u1, .int .i64 u2] 61) := by
    rw [← hw0]
    have := Blk.new (w.alloc (.cells #[.int .i64 t0, .int .i64 t1] 47)) #[.int .i64 u0, .int .i64 u1, .int .i64 u2] 61
    rwa [World.size_alloc] at this
  have HR := Lib.hid (h.after hb0)
  have HB0 := Lib.hid hb0
  have hu1' := hu1.2
  have hu1'' := hu1.1
  have hu2' := hu2.2
  clear h hb0 hu1 hu2
  go_enter Try.func6, Try.ntmps6
  go_wp2_with fail
  clear hw0
  with_reducible refine (made_ok a cap l hl _ HR.out).mono ?_
  rintro e w1 ⟨p, ba, bc, rfl, hF, hb, g1, g2, g3⟩
  have HF1 := Lib.hid hF
  have HB1 := Lib.hid (HB0.out.trans (hb.mono HB0.out.size))
  have K1 := Lib.hid (K0.out.after hb)
  have L1 := Lib.hid (L0.out.after hb)
  clear hF hb K0 L0 HR HB0
  have q0 : w1.cell? ⟨w.heap.size, 0, none⟩ = some (.int .i64 t0) := (K1.out).cell 0 rfl
  have q1 : w1.cell? ⟨w.heap.size, 1, none⟩ = some (.int .i64 t1) := (K1.out).cell 1 rfl
  have r0 : w1.cell? ⟨w.heap.size + 1, 0, none⟩ = some (.int .i64 u0) := (L1.out).cell 0 rfl
  have r1 : w1.cell? ⟨w.heap.size + 1, 1, none⟩ = some (.int .i64 u1) := (L1.out).cell 1 rfl
  have r2 : w1.cell? ⟨w.heap.size + 1, 2, none⟩ = some (.int .i64 u2) := (L1.out).cell 2 rfl
  by_cases h60 : 60 < l.length
  · have h60' : decide (60 < l.length) = true := decide_eq_true h60
    have h61' : decide (60 < (l.length : Int)) = true := decide_eq_true (by omega)
    clear h60
    go_wp2_with fail
    with_reducible refine (awake_ok _).mono ?_
    rintro e w9 ⟨rfl, hb9⟩
    go_wp2_with fail
    go_ret
    exact ⟨rfl, HB1.out.trans (hb9.mono HB1.out.size)⟩
  · have h61' : decide (60 < (l.length : Int)) = false := decide_eq_false (by omega)
    have h60' : l.length ≤ 60 := by omega
    clear h60
    by_cases c1 : u1 < u0
    · have c1' : decide (u1 < u0) = true := decide_eq_true c1
      clear c1
      go_wp2_with fail
      with_reducible refine (awake_ok _).mono ?_
      rintro e w9 ⟨rfl, hb9⟩
      go_wp2_with fail
      go_ret
      exact ⟨rfl, HB1.out.trans (hb9.mono HB1.out.size)⟩
    · have c1' : decide (u1 < u0) = false := decide_eq_false c1
      by_cases c2 : u2 ≤ u1
      · have c2' : decide (u2 ≤ u1) = true := decide_eq_true c2
        clear c1 c2
        go_wp2_with fail
        with_reducible refine (awake_ok _).mono ?_
        rintro e w9 ⟨rfl, hb9⟩
        go_wp2_with fail
        go_ret
        exact ⟨rfl, HB1.out.trans (hb9.mono HB1.out.size)⟩
      · have c2' : decide (u2 ≤ u1) = false := decide_eq_false c2
        have hn := madeS_len l
        obtain ⟨S, hS⟩ : ∃ S, madeS l = S := ⟨_, rfl⟩
        rw [hS] at HF1 hn
        have HSP := Lib.hid (first_split HF1.out.rc t0 u0 u1 u2 t1 (by omega) (by omega))
        have c3 : u0 ≤ u1 := by omega
        have c4 : u1 < u2 := by omega
        clear hS c1 c2
        obtain ⟨o1, ho1⟩ : ∃ o, firstH S.2 t0 u0 u1 t1 = o := ⟨_, rfl⟩
        obtain ⟨o2, ho2⟩ : ∃ o, firstH S.2 t0 (u1 + 1) u2 t1 = o := ⟨_, rfl⟩
        rw [ho1, ho2] at HSP
        have HO1 := Lib.hid ho1
        have HO2 := Lib.hid ho2
        clear ho1 ho2
        cases o1 with
        | some x =>
          obtain ⟨x1, x2, x3, x4, x5⟩ := first_is HO1.out
          have HKN : Hid (knownH S.2 (t0, x.d) = (x.p, true)) := by show _ = _; rw [← x2]; exact known_of HF1.out.rc x1
          obtain ⟨xk, xd, xp⟩ := x
          dsimp only at x2 x3 x4 x5 HKN
          subst x5
          have y1 : decide (u0 ≤ xd) = true := decide_eq_true (by omega)
          have y2 : decide (xd ≤ u2) = true := decide_eq_true (by omega)
          clear x1 x2 x3 x4
          cases o2 with
          | some y =>
            have HD1 : Hid (dayV ((firstH S.2 t0 u0 u2 xp).map Ch.d) = .tuple #[.int .i64 (xd), .bool true]) := by show _ = _; rw [HSP.out]; rfl
            have HD2 : Hid (dayV ((firstH S.2 t0 u0 u1 xp).map Ch.d) = .tuple #[.int .i64 (xd), .bool true]) := by show _ = _; rw [HO1.out]; rfl
            have HD3 : Hid (dayV ((firstH S.2 t0 (u1 + 1) u2 xp).map Ch.d) = .tuple #[.int .i64 (y.d), .bool true]) := by show _ = _; rw [HO2.out]; rfl
            go_wp2_with fail
            with_reducible refine (first_ok p ba bc S.1 S.2 t0 u0 u2 _ _ HF1.out (by omega)).mono ?_
            rintro e w2 ⟨rfl, hb2⟩
            rw [HD1.out]
            have HF2 := Lib.hid (HF1.out.after hb2)
            have HB2 := Lib.hid (HB1.out.trans (hb2.mono HB1.out.size))
            have K2 := Lib.hid (K1.out.after hb2)
            have L2 := Lib.hid (L1.out.after hb2)
            clear HF1 HB1 K1 L1
            clear q0 q1 r0 r1 r2 hb2
            have q0 : w2.cell? ⟨w.heap.size, 0, none⟩ = some (.int .i64 t0) := (K2.out).cell 0 rfl
            have q1 : w2.cell? ⟨w.heap.size, 1, none⟩ = some (.int .i64 xp) := (K2.out).cell 1 rfl
            have r0 : w2.cell? ⟨w.heap.size + 1, 0, none⟩ = some (.int .i64 u0) := (L2.out).cell 0 rfl
            have r1 : w2.cell? ⟨w.heap.size + 1, 1, none⟩ = some (.int .i64 u1) := (L2.out).cell 1 rfl
            have r2 : w2.cell? ⟨w.heap.size + 1, 2, none⟩ = some (.int .i64 u2) := (L2.out).cell 2 rfl
            go_wp2_with fail
            with_reducible refine (first_ok p ba bc S.1 S.2 t0 u0 u1 _ _ HF2.out (by omega)).mono ?_
            rintro e w3 ⟨rfl, hb3⟩
            rw [HD2.out]
            have HF3 := Lib.hid (HF2.out.after hb3)
            have HB3 := Lib.hid (HB2.out.trans (hb3.mono HB2.out.size))
            have K3 := Lib.hid (K2.out.after hb3)
            have L3 := Lib.hid (L2.out.after hb3)
            clear HF2 HB2 K2 L2
            clear q0 q1 r0 r1 r2 hb3
            have q0 : w3.cell? ⟨w.heap.size, 0, none⟩ = some (.int .i64 t0) := (K3.out).cell 0 rfl
            have q1 : w3.cell? ⟨w.heap.size, 1, none⟩ = some (.int .i64 xp) := (K3.out).cell 1 rfl
            have r0 : w3.cell? ⟨w.heap.size + 1, 0, none⟩ = some (.int .i64 u0) := (L3.out).cell 0 rfl
            have r1 : w3.cell? ⟨w.heap.size + 1, 1, none⟩ = some (.int .i64 u1) := (L3.out).cell 1 rfl
            have r2 : w3.cell? ⟨w.heap.size + 1, 2, none⟩ = some (.int .i64 u2) := (L3.out).cell 2 rfl
            go_wp2_with fail
            with_reducible refine (first_ok p ba bc S.1 S.2 t0 (u1 + 1) u2 _ _ HF3.out (by omega)).mono ?_
            rintro e w4 ⟨rfl, hb4⟩
            rw [HD3.out]
            have HF4 := Lib.hid (HF3.out.after hb4)
            have HB4 := Lib.hid (HB3.out.trans (hb4.mono HB3.out.size))
            have K4 := Lib.hid (K3.out.after hb4)
            have L4 := Lib.hid (L3.out.after hb4)
            clear HF3 HB3 K3 L3
            clear q0 q1 r0 r1 r2 hb4 c1' c2' h60' h61'
            have q0 : w4.cell? ⟨w.heap.size, 0, none⟩ = some (.int .i64 t0) := (K4.out).cell 0 rfl
            have q1 : w4.cell? ⟨w.heap.size, 1, none⟩ = some (.int .i64 xp) := (K4.out).cell 1 rfl
            have r0 : w4.cell? ⟨w.heap.size + 1, 0, none⟩ = some (.int .i64 u0) := (L4.out).cell 0 rfl
            have r1 : w4.cell? ⟨w.heap.size + 1, 1, none⟩ = some (.int .i64 u1) := (L4.out).cell 1 rfl
            have r2 : w4.cell? ⟨w.heap.size + 1, 2, none⟩ = some (.int .i64 u2) := (L4.out).cell 2 rfl
            go_wp2_with fail
            with_reducible refine (choice_ok p ba bc _ _ _ _ _ HF4.out).mono ?_
            rintro e w5 ⟨rfl, hb5⟩
            rw [HKN.out]
            dsimp only
            have HF5 := Lib.hid (HF4.out.after hb5)
            have HB5 := Lib.hid (HB4.out.trans (hb5.mono HB4.out.size))
            have K5 := Lib.hid (K4.out.after hb5)
            have L5 := Lib.hid (L4.out.after hb5)
            clear HF4 HB4 K4 L4
            clear q0 q1 r0 r1 r2 hb5
            have q0 : w5.cell? ⟨w.heap.size, 0, none⟩ = some (.int .i64 t0) := (K5.out).cell 0 rfl
            have q1 : w5.cell? ⟨w.heap.size, 1, none⟩ = some (.int .i64 xp) := (K5.out).cell 1 rfl
            have r0 : w5.cell? ⟨w.heap.size + 1, 0, none⟩ = some (.int .i64 u0) := (L5.out).cell 0 rfl
            have r1 : w5.cell? ⟨w.heap.size + 1, 1, none⟩ = some (.int .i64 u1) := (L5.out).cell 1 rfl
            have r2 : w5.cell? ⟨w.heap.size + 1, 2, none⟩ = some (.int .i64 u2) := (L5.out).cell 2 rfl
            go_wp2_with fail
            with_reducible refine (awake_ok _).mono ?_
            rintro e w9 ⟨rfl, hb9⟩
            go_wp2_with fail
            go_ret
            exact ⟨rfl, HB5.out.trans (hb9.mono HB5.out.size)⟩
          | none =>
            have HD1 : Hid (dayV ((firstH S.2 t0 u0 u2 xp).map Ch.d) = .tuple #[.int .i64 (xd), .bool true]) := by show _ = _; rw [HSP.out]; rfl
            have HD2 : Hid (dayV ((firstH S.2 t0 u0 u1 xp).map Ch.d) = .tuple #[.int .i64 (xd), .bool true]) := by show _ = _; rw [HO1.out]; rfl
            have HD3 : Hid (dayV ((firstH S.2 t0 (u1 + 1) u2 xp).map Ch.d) = .tuple #[.int .i64 (0), .bool false]) := by show _ = _; rw [HO2.out]; rfl
            go_wp2_with fail
            with_reducible refine (first_ok p ba bc S.1 S.2 t0 u0 u2 _ _ HF1.out (by omega)).mono ?_
            rintro e w2 ⟨rfl, hb2⟩
            rw [HD1.out]
            have HF2 := Lib.hid (HF1.out.after hb2)
            have HB2 := Lib.hid (HB1.out.trans (hb2.mono HB1.out.size))
            have K2 := Lib.hid (K1.out.after hb2)
            have L2 := Lib.hid (L1.out.after hb2)
            clear HF1 HB1 K1 L1
            clear q0 q1 r0 r1 r2 hb2
            have q0 : w2.cell? ⟨w.heap.size, 0, none⟩ = some (.int .i64 t0) := (K2.out).cell 0 rfl
            have q1 : w2.cell? ⟨w.heap.size, 1, none⟩ = some (.int .i64 xp) := (K2.out).cell 1 rfl
            have r0 : w2.cell? ⟨w.heap.size + 1, 0, none⟩ = some (.int .i64 u0) := (L2.out).cell 0 rfl
            have r1 : w2.cell? ⟨w.heap.size + 1, 1, none⟩ = some (.int .i64 u1) := (L2.out).cell 1 rfl
            have r2 : w2.cell? ⟨w.heap.size + 1, 2, none⟩ = some (.int .i64 u2) := (L2.out).cell 2 rfl
            go_wp2_with fail
            with_reducible refine (first_ok p ba bc S.1 S.2 t0 u0 u1 _ _ HF2.out (by omega)).mono ?_
            rintro e w3 ⟨rfl, hb3⟩
            rw [HD2.out]
            have HF3 := Lib.hid (HF2.out.after hb3)
            have HB3 := Lib.hid (HB2.out.trans (hb3.mono HB2.out.size))
            have K3 := Lib.hid (K2.out.after hb3)
            have L3 := Lib.hid (L2.out.after hb3)
            clear HF2 HB2 K2 L2
            clear q0 q1 r0 r1 r2 hb3
            have q0 : w3.cell? ⟨w.heap.size, 0, none⟩ = some (.int .i64 t0) := (K3.out).cell 0 rfl
            have q1 : w3.cell? ⟨w.heap.size, 1, none⟩ = some (.int .i64 xp) := (K3.out).cell 1 rfl
            have r0 : w3.cell? ⟨w.heap.size + 1, 0, none⟩ = some (.int .i64 u0) := (L3.out).cell 0 rfl
            have r1 : w3.cell? ⟨w.heap.size + 1, 1, none⟩ = some (.int .i64 u1) := (L3.out).cell 1 rfl
            have r2 : w3.cell? ⟨w.heap.size + 1, 2, none⟩ = some (.int .i64 u2) := (L3.out).cell 2 rfl
            go_wp2_with fail
            with_reducible refine (first_ok p ba bc S.1 S.2 t0 (u1 + 1) u2 _ _ HF3.out (by omega)).mono ?_
            rintro e w4 ⟨rfl, hb4⟩
            rw [HD3.out]
            have HF4 := Lib.hid (HF3.out.after hb4)
            have HB4 := Lib.hid (HB3.out.trans (hb4.mono HB3.out.size))
            have K4 := Lib.hid (K3.out.after hb4)
            have L4 := Lib.hid (L3.out.after hb4)
            clear HF3 HB3 K3 L3
            clear q0 q1 r0 r1 r2 hb4 c1' c2' h60' h61'
            have q0 : w4.cell? ⟨w.heap.size, 0, none⟩ = some (.int .i64 t0) := (K4.out).cell 0 rfl
            have q1 : w4.cell? ⟨w.heap.size, 1, none⟩ = some (.int .i64 xp) := (K4.out).cell 1 rfl
            have r0 : w4.cell? ⟨w.heap.size + 1, 0, none⟩ = some (.int .i64 u0) := (L4.out).cell 0 rfl
            have r1 : w4.cell? ⟨w.heap.size + 1, 1, none⟩ = some (.int .i64 u1) := (L4.out).cell 1 rfl
            have r2 : w4.cell? ⟨w.heap.size + 1, 2, none⟩ = some (.int .i64 u2) := (L4.out).cell 2 rfl
            go_wp2_with fail
            with_reducible refine (choice_ok p ba bc _ _ _ _ _ HF4.out).mono ?_
            rintro e w5 ⟨rfl, hb5⟩
            rw [HKN.out]
            dsimp only
            have HF5 := Lib.hid (HF4.out.after hb5)
            have HB5 := Lib.hid (HB4.out.trans (hb5.mono HB4.out.size))
            have K5 := Lib.hid (K4.out.after hb5)
            have L5 := Lib.hid (L4.out.after hb5)
            clear HF4 HB4 K4 L4
            clear q0 q1 r0 r1 r2 hb5
            have q0 : w5.cell? ⟨w.heap.size, 0, none⟩ = some (.int .i64 t0) := (K5.out).cell 0 rfl
            have q1 : w5.cell? ⟨w.heap.size, 1, none⟩ = some (.int .i64 xp) := (K5.out).cell 1 rfl
            have r0 : w5.cell? ⟨w.heap.size + 1, 0, none⟩ = some (.int .i64 u0) := (L5.out).cell 0 rfl
            have r1 : w5.cell? ⟨w.heap.size + 1, 1, none⟩ = some (.int .i64 u1) := (L5.out).cell 1 rfl
            have r2 : w5.cell? ⟨w.heap.size + 1, 2, none⟩ = some (.int .i64 u2) := (L5.out).cell 2 rfl
            go_wp2_with fail
            with_reducible refine (awake_ok _).mono ?_
            rintro e w9 ⟨rfl, hb9⟩
            go_wp2_with fail
            go_ret
            exact ⟨rfl, HB5.out.trans (hb9.mono HB5.out.size)⟩
        | none =>
          cases o2 with
          | some x =>
            obtain ⟨x1, x2, x3, x4, x5⟩ := first_is HO2.out
            have HKN : Hid (knownH S.2 (t0, x.d) = (x.p, true)) := by show _ = _; rw [← x2]; exact known_of HF1.out.rc x1
            obtain ⟨xk, xd, xp⟩ := x
            dsimp only at x2 x3 x4 x5 HKN
            subst x5
            have y1 : decide (u0 ≤ xd) = true := decide_eq_true (by omega)
            have y2 : decide (xd ≤ u2) = true := decide_eq_true (by omega)
            clear x1 x2 x3 x4
            have HD1 : Hid (dayV ((firstH S.2 t0 u0 u2 xp).map Ch.d) = .tuple #[.int .i64 (xd), .bool true]) := by show _ = _; rw [HSP.out]; rfl
            have HD2 : Hid (dayV ((firstH S.2 t0 u0 u1 xp).map Ch.d) = .tuple #[.int .i64 (0), .bool false]) := by show _ = _; rw [HO1.out]; rfl
            have HD3 : Hid (dayV ((firstH S.2 t0 (u1 + 1) u2 xp).map Ch.d) = .tuple #[.int .i64 (xd), .bool true]) := by show _ = _; rw [HO2.out]; rfl
            go_wp2_with fail
            with_reducible refine (first_ok p ba bc S.1 S.2 t0 u0 u2 _ _ HF1.out (by omega)).mono ?_
            rintro e w2 ⟨rfl, hb2⟩
            rw [HD1.out]
            have HF2 := Lib.hid (HF1.out.after hb2)
            have HB2 := Lib.hid (HB1.out.trans (hb2.mono HB1.out.size))
            have K2 := Lib.hid (K1.out.after hb2)
            have L2 := Lib.hid (L1.out.after hb2)
            clear HF1 HB1 K1 L1
            clear q0 q1 r0 r1 r2 hb2
            have q0 : w2.cell? ⟨w.heap.size, 0, none⟩ = some (.int .i64 t0) := (K2.out).cell 0 rfl
            have q1 : w2.cell? ⟨w.heap.size, 1, none⟩ = some (.int .i64 xp) := (K2.out).cell 1 rfl
            have r0 : w2.cell? ⟨w.heap.size + 1, 0, none⟩ = some (.int .i64 u0) := (L2.out).cell 0 rfl
            have r1 : w2.cell? ⟨w.heap.size + 1, 1, none⟩ = some (.int .i64 u1) := (L2.out).cell 1 rfl
            have r2 : w2.cell? ⟨w.heap.size + 1, 2, none⟩ = some (.int .i64 u2) := (L2.out).cell 2 rfl
            go_wp2_with fail
            with_reducible refine (first_ok p ba bc S.1 S.2 t0 u0 u1 _ _ HF2.out (by omega)).mono ?_
            rintro e w3 ⟨rfl, hb3⟩
            rw [HD2.out]
            have HF3 := Lib.hid (HF2.out.after hb3)
            have HB3 := Lib.hid (HB2.out.trans (hb3.mono HB2.out.size))
            have K3 := Lib.hid (K2.out.after hb3)
            have L3 := Lib.hid (L2.out.after hb3)
            clear HF2 HB2 K2 L2
            clear q0 q1 r0 r1 r2 hb3
            have q0 : w3.cell? ⟨w.heap.size, 0, none⟩ = some (.int .i64 t0) := (K3.out).cell 0 rfl
            have q1 : w3.cell? ⟨w.heap.size, 1, none⟩ = some (.int .i64 xp) := (K3.out).cell 1 rfl
            have r0 : w3.cell? ⟨w.heap.size + 1, 0, none⟩ = some (.int .i64 u0) := (L3.out).cell 0 rfl
            have r1 : w3.cell? ⟨w.heap.size + 1, 1, none⟩ = some (.int .i64 u1) := (L3.out).cell 1 rfl
            have r2 : w3.cell? ⟨w.heap.size + 1, 2, none⟩ = some (.int .i64 u2) := (L3.out).cell 2 rfl
            go_wp2_with fail
            with_reducible refine (first_ok p ba bc S.1 S.2 t0 (u1 + 1) u2 _ _ HF3.out (by omega)).mono ?_
            rintro e w4 ⟨rfl, hb4⟩
            rw [HD3.out]
            have HF4 := Lib.hid (HF3.out.after hb4)
            have HB4 := Lib.hid (HB3.out.trans (hb4.mono HB3.out.size))
            have K4 := Lib.hid (K3.out.after hb4)
            have L4 := Lib.hid (L3.out.after hb4)
            clear HF3 HB3 K3 L3
            clear q0 q1 r0 r1 r2 hb4 c1' c2' h60' h61'
            have q0 : w4.cell? ⟨w.heap.size, 0, none⟩ = some (.int .i64 t0) := (K4.out).cell 0 rfl
            have q1 : w4.cell? ⟨w.heap.size, 1, none⟩ = some (.int .i64 xp) := (K4.out).cell 1 rfl
            have r0 : w4.cell? ⟨w.heap.size + 1, 0, none⟩ = some (.int .i64 u0) := (L4.out).cell 0 rfl
            have r1 : w4.cell? ⟨w.heap.size + 1, 1, none⟩ = some (.int .i64 u1) := (L4.out).cell 1 rfl
            have r2 : w4.cell? ⟨w.heap.size + 1, 2, none⟩ = some (.int .i64 u2) := (L4.out).cell 2 rfl
            go_wp2_with fail
            with_reducible refine (choice_ok p ba bc _ _ _ _ _ HF4.out).mono ?_
            rintro e w5 ⟨rfl, hb5⟩
            rw [HKN.out]
            dsimp only
            have HF5 := Lib.hid (HF4.out.after hb5)
            have HB5 := Lib.hid (HB4.out.trans (hb5.mono HB4.out.size))
            have K5 := Lib.hid (K4.out.after hb5)
            have L5 := Lib.hid (L4.out.after hb5)
            clear HF4 HB4 K4 L4
            clear q0 q1 r0 r1 r2 hb5
            have q0 : w5.cell? ⟨w.heap.size, 0, none⟩ = some (.int .i64 t0) := (K5.out).cell 0 rfl
            have q1 : w5.cell? ⟨w.heap.size, 1, none⟩ = some (.int .i64 xp) := (K5.out).cell 1 rfl
            have r0 : w5.cell? ⟨w.heap.size + 1, 0, none⟩ = some (.int .i64 u0) := (L5.out).cell 0 rfl
            have r1 : w5.cell? ⟨w.heap.size + 1, 1, none⟩ = some (.int .i64 u1) := (L5.out).cell 1 rfl
            have r2 : w5.cell? ⟨w.heap.size + 1, 2, none⟩ = some (.int .i64 u2) := (L5.out).cell 2 rfl
            go_wp2_with fail
            with_reducible refine (awake_ok _).mono ?_
            rintro e w9 ⟨rfl, hb9⟩
            go_wp2_with fail
            go_ret
            exact ⟨rfl, HB5.out.trans (hb9.mono HB5.out.size)⟩
          | none =>
            have HD1 : Hid (dayV ((firstH S.2 t0 u0 u2 t1).map Ch.d) = .tuple #[.int .i64 (0), .bool false]) := by show _ = _; rw [HSP.out]; rfl
            have HD2 : Hid (dayV ((firstH S.2 t0 u0 u1 t1).map Ch.d) = .tuple #[.int .i64 (0), .bool false]) := by show _ = _; rw [HO1.out]; rfl
            have HD3 : Hid (dayV ((firstH S.2 t0 (u1 + 1) u2 t1).map Ch.d) = .tuple #[.int .i64 (0), .bool false]) := by show _ = _; rw [HO2.out]; rfl
            go_wp2_with fail
            with_reducible refine (first_ok p ba bc S.1 S.2 t0 u0 u2 _ _ HF1.out (by omega)).mono ?_
            rintro e w2 ⟨rfl, hb2⟩
            rw [HD1.out]
            have HF2 := Lib.hid (HF1.out.after hb2)
            have HB2 := Lib.hid (HB1.out.trans (hb2.mono HB1.out.size))
            have K2 := Lib.hid (K1.out.after hb2)
            have L2 := Lib.hid (L1.out.after hb2)
            clear HF1 HB1 K1 L1
            clear q0 q1 r0 r1 r2 hb2
            have q0 : w2.cell? ⟨w.heap.size, 0, none⟩ = some (.int .i64 t0) := (K2.out).cell 0 rfl
            have q1 : w2.cell? ⟨w.heap.size, 1, none⟩ = some (.int .i64 t1) := (K2.out).cell 1 rfl
            have r0 : w2.cell? ⟨w.heap.size + 1, 0, none⟩ = some (.int .i64 u0) := (L2.out).cell 0 rfl
            have r1 : w2.cell? ⟨w.heap.size + 1, 1, none⟩ = some (.int .i64 u1) := (L2.out).cell 1 rfl
            have r2 : w2.cell? ⟨w.heap.size + 1, 2, none⟩ = some (.int .i64 u2) := (L2.out).cell 2 rfl
            go_wp2_with fail
            with_reducible refine (first_ok p ba bc S.1 S.2 t0 u0 u1 _ _ HF2.out (by omega)).mono ?_
            rintro e w3 ⟨rfl, hb3⟩
            rw [HD2.out]
            have HF3 := Lib.hid (HF2.out.after hb3)
            have HB3 := Lib.hid (HB2.out.trans (hb3.mono HB2.out.size))
            have K3 := Lib.hid (K2.out.after hb3)
            have L3 := Lib.hid (L2.out.after hb3)
            clear HF2 HB2 K2 L2
            clear q0 q1 r0 r1 r2 hb3
            have q0 : w3.cell? ⟨w.heap.size, 0, none⟩ = some (.int .i64 t0) := (K3.out).cell 0 rfl
            have q1 : w3.cell? ⟨w.heap.size, 1, none⟩ = some (.int .i64 t1) := (K3.out).cell 1 rfl
            have r0 : w3.cell? ⟨w.heap.size + 1, 0, none⟩ = some (.int .i64 u0) := (L3.out).cell 0 rfl
            have r1 : w3.cell? ⟨w.heap.size + 1, 1, none⟩ = some (.int .i64 u1) := (L3.out).cell 1 rfl
            have r2 : w3.cell? ⟨w.heap.size + 1, 2, none⟩ = some (.int .i64 u2) := (L3.out).cell 2 rfl
            go_wp2_with fail
            with_reducible refine (first_ok p ba bc S.1 S.2 t0 (u1 + 1) u2 _ _ HF3.out (by omega)).mono ?_
            rintro e w4 ⟨rfl, hb4⟩
            rw [HD3.out]
            have HF4 := Lib.hid (HF3.out.after hb4)
            have HB4 := Lib.hid (HB3.out.trans (hb4.mono HB3.out.size))
            have K4 := Lib.hid (K3.out.after hb4)
            have L4 := Lib.hid (L3.out.after hb4)
            clear HF3 HB3 K3 L3
            clear q0 q1 r0 r1 r2 hb4 c1' c2' h60' h61'
            have q0 : w4.cell? ⟨w.heap.size, 0, none⟩ = some (.int .i64 t0) := (K4.out).cell 0 rfl
            have q1 : w4.cell? ⟨w.heap.size, 1, none⟩ = some (.int .i64 t1) := (K4.out).cell 1 rfl
            have r0 : w4.cell? ⟨w.heap.size + 1, 0, none⟩ = some (.int .i64 u0) := (L4.out).cell 0 rfl
            have r1 : w4.cell? ⟨w.heap.size + 1, 1, none⟩ = some (.int .i64 u1) := (L4.out).cell 1 rfl
            have r2 : w4.cell? ⟨w.heap.size + 1, 2, none⟩ = some (.int .i64 u2) := (L4.out).cell 2 rfl
            go_wp2_with fail
            with_reducible refine (awake_ok _).mono ?_
            rintro e w9 ⟨rfl, hb9⟩
            go_wp2_with fail
            go_ret
            exact ⟨rfl, HB4.out.trans (hb9.mono HB4.out.size)⟩

set_option maxRecDepth 100000 in
open Go.ChangeShapes Go.WideShapes Go.ChangeAt in
theorem walk_FactsFirst {H : Type} (enc : TypeId × Value → H) (base : Nat) (W : World) (v : Value) (d : DataW H) (p : List MemPlace) (h : DataW.Trod enc Try.prog W 0 (fun _ => true) true 22 v d p) (ok : Value.okWide Try.prog W .any base 22 v)
    (v' : Value) (d' : DataW H) (p' : List MemPlace) (h' : DataW.Trod enc Try.prog W 0 (fun _ => true) true 47 v' d' p') (ok' : Value.okWide Try.prog W .any base 47 v')
    (v'' : Value) (d'' : DataW H) (p'' : List MemPlace) (h'' : DataW.Trod enc Try.prog W 0 (fun _ => true) true 61 v'' d'' p'') (ok'' : Value.okWide Try.prog W .any base 61 v'') :
    Calls Try.prog 6 #[v, v', v''] W fun e w' => e = .returned (.bool true) ∧ Below W.heap.size W w' := by
  obtain ⟨a, cap, l, rfl, hl, hc, _, hT⟩ := told_arg h ok
  obtain ⟨t0, t1, rfl, _⟩ := two_arg h' ok'
  obtain ⟨u0, u1, u2, rfl, _, hu1, hu2⟩ := three_arg h'' ok''
  exact first_law a cap l t0 t1 u0 u1 u2 hu1 hu2 (by omega) W hT

end Go.Proofs.Ytfimgdjpnlcckaa
