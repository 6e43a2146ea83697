/- Package term: number, fits. -/
import Derived.Test.YtglnnllodoljkaaDoorTermB
import Derived.Test.YtglnnllodoljkaaDoorRat
import Derived.Test.YtglnnllodoljkaaDoorEqs
import Derived.BigGuardPart
namespace Go.Proofs.YtglnnllodoljkaaDoor
open Go.RowKit
set_option linter.unusedVariables false
set_option linter.unusedSimpArgs false

/-- A node's fields that are within limits. -/
def fitsV (la lb : Int) (n : Nd) : Bool := decide (0 ≤ n.a) && (decide (n.a ≤ la) && (decide (0 ≤ n.b) && (decide (n.b ≤ lb) && (n.num == 0 && n.den == 0))))
/-- A node that is a number. -/
def numV (n : Nd) : Bool := n.a == 0 && (n.b == 0 && ratV n.num n.den == 0)
def Nd.val (n : Nd) : Value := .agg #[.int .i64 n.op, .int .i64 n.a, .int .i64 n.b, .int .i64 n.num, .int .i64 n.den]

set_option maxHeartbeats 1000000 in
set_option maxRecDepth 100000 in
theorem number_ok (n : Nd) (h1 : -9223372036854775808 ≤ n.num) (h2 : n.num ≤ 9223372036854775807) (h3 : -9223372036854775808 ≤ n.den) (h4 : n.den ≤ 9223372036854775807) (w : World) :
    Calls Tryd.prog 47 #[n.val] w fun e w' => e = .returned (.bool (numV n)) ∧ Below w.heap.size w w' := by
  obtain ⟨op, a, b, num, den⟩ := n
  unfold Nd.val numV
  dsimp only at *
  obtain ⟨wa, hwa⟩ : ∃ wa, w.alloc (.cells #[.int .i64 op, .int .i64 a, .int .i64 b, .int .i64 num, .int .i64 den] 47) = wa := ⟨_, rfl⟩
  have ba : Below w.heap.size w wa := by rw [← hwa]; exact (Below.refl _ _).alloc (Nat.le_refl _) _
  have k0 : Blk wa w.heap.size #[.int .i64 op, .int .i64 a, .int .i64 b, .int .i64 num, .int .i64 den] 47 := by rw [← hwa]; exact Blk.new _ _ _
  have c1 : wa.cell? ⟨w.heap.size, 1, none⟩ = some (.int .i64 a) := k0.cell 1 rfl
  have c2 : wa.cell? ⟨w.heap.size, 2, none⟩ = some (.int .i64 b) := k0.cell 2 rfl
  have c3 : wa.cell? ⟨w.heap.size, 3, none⟩ = some (.int .i64 num) := k0.cell 3 rfl
  have c4 : wa.cell? ⟨w.heap.size, 4, none⟩ = some (.int .i64 den) := k0.cell 4 rfl
  clear k0
  have HC := Lib.hid (ratchk_ok num den h1 h2 h3 h4 wa)
  have hz := ba.size
  clear h1 h2 h3 h4
  obtain ⟨r, hr⟩ : ∃ r, ratV num den = r := ⟨_, rfl⟩
  rw [hr] at HC ⊢
  clear hr
  by_cases h1 : a = 0
  · have h1b : (a == 0) = true := by simp [h1]
    by_cases h2 : b = 0
    · have h2b : (b == 0) = true := by simp [h2]
      subst h1 h2
      go_enter Tryd.func47, Tryd.ntmps47
      go_wp2_with (with_reducible refine HC.out.mono ?_; rintro e w1 ⟨rfl, hb1⟩)
      go_ret
      exact ⟨rfl, ba.trans (hb1.mono hz)⟩
    · have h2b : (b == 0) = false := by simp [h2]
      subst h1
      go_enter Tryd.func47, Tryd.ntmps47
      go_wp2_with fail
      go_ret
      rw [h2b]
      exact ⟨rfl, ba⟩
  · have h1b : (a == 0) = false := by simp [h1]
    go_enter Tryd.func47, Tryd.ntmps47
    go_wp2_with fail
    go_ret
    rw [h1b]
    exact ⟨rfl, ba⟩

set_option maxHeartbeats 1000000 in
set_option maxRecDepth 100000 in
theorem fits_ok (la lb : Int) (n : Nd) (w : World) :
    Calls Tryd.prog 46 #[.agg #[.int .i64 la, .int .i64 lb], n.val] w fun e w' => e = .returned (.bool (fitsV la lb n)) ∧ Below w.heap.size w w' := by
  obtain ⟨op, a, b, num, den⟩ := n
  unfold Nd.val fitsV
  dsimp only at *
  obtain ⟨wa, hwa⟩ : ∃ wa, (w.alloc (.cells #[.int .i64 la, .int .i64 lb] 71)).alloc (.cells #[.int .i64 op, .int .i64 a, .int .i64 b, .int .i64 num, .int .i64 den] 47) = wa := ⟨_, rfl⟩
  have ba : Below w.heap.size w wa := by rw [← hwa]; exact ((Below.refl _ _).alloc (Nat.le_refl _) _).alloc (by simp) _
  have l0 : wa.cell? ⟨w.heap.size, 0, none⟩ = some (.int .i64 la) := by rw [← hwa]; exact ((Blk.new w #[.int .i64 la, .int .i64 lb] 71).alloc _).cell 0 rfl
  have l1 : wa.cell? ⟨w.heap.size, 1, none⟩ = some (.int .i64 lb) := by rw [← hwa]; exact ((Blk.new w #[.int .i64 la, .int .i64 lb] 71).alloc _).cell 1 rfl
  have k0 : Blk wa (w.heap.size + 1) #[.int .i64 op, .int .i64 a, .int .i64 b, .int .i64 num, .int .i64 den] 47 := by rw [← hwa, ← World.size_alloc]; exact Blk.new _ _ _
  have c1 : wa.cell? ⟨w.heap.size + 1, 1, none⟩ = some (.int .i64 a) := k0.cell 1 rfl
  have c2 : wa.cell? ⟨w.heap.size + 1, 2, none⟩ = some (.int .i64 b) := k0.cell 2 rfl
  have c3 : wa.cell? ⟨w.heap.size + 1, 3, none⟩ = some (.int .i64 num) := k0.cell 3 rfl
  have c4 : wa.cell? ⟨w.heap.size + 1, 4, none⟩ = some (.int .i64 den) := k0.cell 4 rfl
  clear k0
  go_enter Tryd.func46, Tryd.ntmps46
  go_wp2_with fail
  all_goals
    go_ret
    refine ⟨?_, ba⟩
    show Ending.returned (.bool _) = Ending.returned (.bool _)
    congr 2
    rw [Bool.eq_iff_iff]
    simp
    try omega

/-- What the fields of an op's node are held to; none: it is a number. -/
def limV (op : Int) : Int × Int := if op = 2 ∨ op = 16 then (63, 0) else if op = 10 then (7, 0) else if op = 14 then (73048, 0) else if op = 17 then (63, 73048) else (0, 0)
/-- Whether a node's fields may be. -/
def fieldsV (n : Nd) : Bool := if n.op = 1 then numV n else fitsV (limV n.op).1 (limV n.op).2 n

set_option maxHeartbeats 1000000 in
set_option maxRecDepth 100000 in
theorem fields_ok (n : Nd) (h1 : -9223372036854775808 ≤ n.num) (h2 : n.num ≤ 9223372036854775807) (h3 : -9223372036854775808 ≤ n.den) (h4 : n.den ≤ 9223372036854775807) (w : World) :
    Calls Tryd.prog 37 #[n.val] w fun e w' => e = .returned (.bool (fieldsV n)) ∧ Below w.heap.size w w' := by
  have HN := Lib.hid (number_ok n h1 h2 h3 h4)
  have HF := Lib.hid (fun la lb => fits_ok la lb n)
  clear h1 h2 h3 h4
  obtain ⟨V, hV⟩ : ∃ V, fieldsV n = V := ⟨_, rfl⟩
  rw [hV]
  have HV := Lib.hid hV
  clear hV
  unfold Nd.val at *
  obtain ⟨wa, hwa⟩ : ∃ wa, w.alloc (.cells #[.int .i64 n.op, .int .i64 n.a, .int .i64 n.b, .int .i64 n.num, .int .i64 n.den] 47) = wa := ⟨_, rfl⟩
  have ba : Below w.heap.size w wa := by rw [← hwa]; exact (Below.refl _ _).alloc (Nat.le_refl _) _
  have k0 : Blk wa w.heap.size #[.int .i64 n.op, .int .i64 n.a, .int .i64 n.b, .int .i64 n.num, .int .i64 n.den] 47 := by rw [← hwa]; exact Blk.new _ _ _
  have c0 : wa.cell? ⟨w.heap.size, 0, none⟩ = some (.int .i64 n.op) := k0.cell 0 rfl
  have c1 : wa.cell? ⟨w.heap.size, 1, none⟩ = some (.int .i64 n.a) := k0.cell 1 rfl
  have c2 : wa.cell? ⟨w.heap.size, 2, none⟩ = some (.int .i64 n.b) := k0.cell 2 rfl
  have c3 : wa.cell? ⟨w.heap.size, 3, none⟩ = some (.int .i64 n.num) := k0.cell 3 rfl
  have c4 : wa.cell? ⟨w.heap.size, 4, none⟩ = some (.int .i64 n.den) := k0.cell 4 rfl
  clear k0
  have hz := ba.size
  obtain ⟨op, hop⟩ : ∃ op, n.op = op := ⟨_, rfl⟩
  rw [hop] at c0 hwa HN HF ⊢
  have HO := Lib.hid hop
  clear hop
  go_enter Tryd.func37, Tryd.ntmps37
  go_wp2_with fail
  all_goals
    first
      | with_reducible refine (HN.out _).mono ?_
      | with_reducible refine (HF.out _ _ _).mono ?_
    rintro e w1 ⟨rfl, hb1⟩
    go_wp2_with fail
    go_ret
    refine ⟨?_, ba.trans (hb1.mono hz)⟩
    show Ending.returned (.bool _) = Ending.returned (.bool _)
    congr 2
    rw [← HV.out]
    unfold fieldsV limV
    rw [HO.out]
    repeat' split
    all_goals first | rfl | (exfalso; simp at *; omega) | (trace_state; sorry)

set_option maxHeartbeats 1000000 in
set_option maxRecDepth 100000 in
theorem unfit_ok (n : Nd) (h1 : -9223372036854775808 ≤ n.num) (h2 : n.num ≤ 9223372036854775807) (h3 : -9223372036854775808 ≤ n.den) (h4 : n.den ≤ 9223372036854775807) (w : World) :
    Calls Tryd.prog 36 #[n.val] w fun e w' => e = .returned (.bool (!fieldsV n)) ∧ Below w.heap.size w w' := by
  have HN := Lib.hid (fields_ok n h1 h2 h3 h4)
  clear h1 h2 h3 h4
  obtain ⟨V, hV⟩ : ∃ V, fieldsV n = V := ⟨_, rfl⟩
  rw [hV] at HN ⊢
  clear hV
  unfold Nd.val at *
  obtain ⟨wa, hwa⟩ : ∃ wa, w.alloc (.cells #[.int .i64 n.op, .int .i64 n.a, .int .i64 n.b, .int .i64 n.num, .int .i64 n.den] 47) = wa := ⟨_, rfl⟩
  have ba : Below w.heap.size w wa := by rw [← hwa]; exact (Below.refl _ _).alloc (Nat.le_refl _) _
  have k0 : Blk wa w.heap.size #[.int .i64 n.op, .int .i64 n.a, .int .i64 n.b, .int .i64 n.num, .int .i64 n.den] 47 := by rw [← hwa]; exact Blk.new _ _ _
  have c0 : wa.cell? ⟨w.heap.size, 0, none⟩ = some (.int .i64 n.op) := k0.cell 0 rfl
  have c1 : wa.cell? ⟨w.heap.size, 1, none⟩ = some (.int .i64 n.a) := k0.cell 1 rfl
  have c2 : wa.cell? ⟨w.heap.size, 2, none⟩ = some (.int .i64 n.b) := k0.cell 2 rfl
  have c3 : wa.cell? ⟨w.heap.size, 3, none⟩ = some (.int .i64 n.num) := k0.cell 3 rfl
  have c4 : wa.cell? ⟨w.heap.size, 4, none⟩ = some (.int .i64 n.den) := k0.cell 4 rfl
  clear k0
  have hz := ba.size
  go_enter Tryd.func36, Tryd.ntmps36
  go_wp2_with fail
  with_reducible refine (HN.out _).mono ?_
  rintro e w1 ⟨rfl, hb1⟩
  go_wp2_with fail
  go_ret
  exact ⟨rfl, ba.trans (hb1.mono hz)⟩

end Go.Proofs.YtglnnllodoljkaaDoor
