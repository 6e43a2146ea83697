/- == of ratios, fixings and choices. -/
import Derived.Test.YtfimgdjpnlcckaaFacK
namespace Go.Proofs.Ytfimgdjpnlcckaa
open Go.RowKit
set_option linter.unusedVariables false
set_option linter.unusedSimpArgs false

theorem intU : Try.prog.underlying 3 = some (.int .i64) := by kernel_rfl
theorem ratio_eqIn (d : Nat) (n m n' m' : Int) (w : World) : (Op.equalIn (d + 3) 29 (.agg #[.int .i64 n, .int .i64 m]) (.agg #[.int .i64 n', .int .i64 m'])).run Try.prog w = .ok (decide (n = n' ∧ m = m')) w := by
  rw [run_equalIn_agg w (d + 2) _ _ _ (by unfold Program.fieldsOf; rw [Try.underlying29]) (by kernel_rfl)]
  unfold Program.fieldsOf
  rw [Try.underlying29]
  have q0 : ∀ x y : Int, (part 3 #[.int .i64 x, .int .i64 y] 0).run Try.prog w = .ok (.int .i64 x) w := fun x y => by kernel_rfl
  have q1 : ∀ x y : Int, (part 3 #[.int .i64 x, .int .i64 y] 1).run Try.prog w = .ok (.int .i64 y) w := fun x y => by kernel_rfl
  by_cases e1 : n = n' <;> by_cases e2 : m = m' <;>
    simp [Op.eqFields, Sem.run_bind, q0, q1, run_equalIn_int w (d + 1) _ .i64 .i64 _ _ intU, e1, e2]
theorem ratio_eql (n m n' m' : Int) (w : World) : (binOp .eql 29 (.agg #[.int .i64 n, .int .i64 m]) (.agg #[.int .i64 n', .int .i64 m'])).run Try.prog w = .ok (.bool (decide (n = n' ∧ m = m'))) w := by
  rw [run_eql_struct, ratio_eqIn 9997]
  rfl
theorem ratio_neq (n m n' m' : Int) (w : World) : (binOp .neq 29 (.agg #[.int .i64 n, .int .i64 m]) (.agg #[.int .i64 n', .int .i64 m'])).run Try.prog w = .ok (.bool (!decide (n = n' ∧ m = m'))) w := by
  rw [run_neq_struct, ratio_eqIn 9997]
  rfl
theorem fx_eqIn (k d n m k' d' n' m' : Int) (w : World) : (Op.equalIn 10000 41 (.agg #[.int .i64 k, .int .i64 d, .int .i64 n, .int .i64 m]) (.agg #[.int .i64 k', .int .i64 d', .int .i64 n', .int .i64 m'])).run Try.prog w = .ok (decide ((⟨k, d, n, m⟩ : Fx) = ⟨k', d', n', m'⟩)) w := by
  rw [run_equalIn_agg w 9999 _ _ _ (by unfold Program.fieldsOf; rw [Try.underlying41]) (by kernel_rfl)]
  unfold Program.fieldsOf
  rw [Try.underlying41]
  have q0 : ∀ x y z u : Int, (part 3 #[.int .i64 x, .int .i64 y, .int .i64 z, .int .i64 u] 0).run Try.prog w = .ok (.int .i64 x) w := fun x y z u => by kernel_rfl
  have q1 : ∀ x y z u : Int, (part 3 #[.int .i64 x, .int .i64 y, .int .i64 z, .int .i64 u] 1).run Try.prog w = .ok (.int .i64 y) w := fun x y z u => by kernel_rfl
  have q2 : ∀ x y z u : Int, (part 29 #[.int .i64 x, .int .i64 y, .int .i64 z, .int .i64 u] 2).run Try.prog w = .ok (.agg #[.int .i64 z, .int .i64 u]) w := fun x y z u => by kernel_rfl
  by_cases e1 : k = k' <;> by_cases e2 : d = d' <;> by_cases e3 : n = n' <;> by_cases e4 : m = m' <;>
    simp [Op.eqFields, Sem.run_bind, q0, q1, q2, run_equalIn_int w 9998 _ .i64 .i64 _ _ intU, ratio_eqIn 9996, e1, e2, e3, e4]
theorem fx_neq (k d n m k' d' n' m' : Int) (w : World) : (binOp .neq 41 (.agg #[.int .i64 k, .int .i64 d, .int .i64 n, .int .i64 m]) (.agg #[.int .i64 k', .int .i64 d', .int .i64 n', .int .i64 m'])).run Try.prog w = .ok (.bool (!decide ((⟨k, d, n, m⟩ : Fx) = ⟨k', d', n', m'⟩))) w := by
  rw [run_neq_struct, fx_eqIn]
  rfl
theorem ch_eqIn (k d p k' d' p' : Int) (w : World) : (Op.equalIn 10000 45 (.agg #[.int .i64 k, .int .i64 d, .int .i64 p]) (.agg #[.int .i64 k', .int .i64 d', .int .i64 p'])).run Try.prog w = .ok (decide ((⟨k, d, p⟩ : Ch) = ⟨k', d', p'⟩)) w := by
  rw [run_equalIn_agg w 9999 _ _ _ (by unfold Program.fieldsOf; rw [Try.underlying45]) (by kernel_rfl)]
  unfold Program.fieldsOf
  rw [Try.underlying45]
  have q0 : ∀ x y z : Int, (part 3 #[.int .i64 x, .int .i64 y, .int .i64 z] 0).run Try.prog w = .ok (.int .i64 x) w := fun x y z => by kernel_rfl
  have q1 : ∀ x y z : Int, (part 3 #[.int .i64 x, .int .i64 y, .int .i64 z] 1).run Try.prog w = .ok (.int .i64 y) w := fun x y z => by kernel_rfl
  have q2 : ∀ x y z : Int, (part 3 #[.int .i64 x, .int .i64 y, .int .i64 z] 2).run Try.prog w = .ok (.int .i64 z) w := fun x y z => by kernel_rfl
  by_cases e1 : k = k' <;> by_cases e2 : d = d' <;> by_cases e3 : p = p' <;>
    simp [Op.eqFields, Sem.run_bind, q0, q1, q2, run_equalIn_int w 9998 _ .i64 .i64 _ _ intU, e1, e2, e3]
theorem ch_neq (k d p k' d' p' : Int) (w : World) : (binOp .neq 45 (.agg #[.int .i64 k, .int .i64 d, .int .i64 p]) (.agg #[.int .i64 k', .int .i64 d', .int .i64 p'])).run Try.prog w = .ok (.bool (!decide ((⟨k, d, p⟩ : Ch) = ⟨k', d', p'⟩))) w := by
  rw [run_neq_struct, ch_eqIn]
  rfl

end Go.Proofs.Ytfimgdjpnlcckaa
