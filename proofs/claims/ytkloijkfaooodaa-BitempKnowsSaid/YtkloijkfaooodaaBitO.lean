/- The laws' arguments, opened; == of versions. -/
import Derived.Test.YtkloijkfaooodaaBitN
import Derived.OpenShut
import Derived.ShutString
import Derived.ChangeOld
namespace Go.Proofs.Ytkloijkfaooodaa
open Go.RowKit
set_option linter.unusedVariables false
set_option linter.unusedSimpArgs false

theorem wf_i64 {x : Int} (h : (Lit.int .i64 x).wf = true) : I64 x := wf_bounds h
structure Vs.Ok (v : Vs) : Prop where
  s : I64 v.s
  k : I64 v.k
  d : I64 v.d
  n : I64 v.n
  m : I64 v.m
  p : I64 v.p
/-- What a version is, as an argument. -/
def VersAt (w : World) (a : Option Addr) (l : List Vs) : Prop := RecsAt w a 7 encS l ∧ ∀ v ∈ l, v.Ok
section
open Go.ChangeShapes Go.WideShapes Go.ChangeAt
variable {H : Type} {enc : TypeId × Value → H} {base : Nat} {W : World}
theorem ver_cells {spare : Nat → Bool} {held : Bool} {cs : List Value} (hl : CellsAre (LeafOk enc Try.prog W base spare held) [3, 4, 3, 3, 3, 3, 3] cs) : ∃ x : Vs, cs = encS x ∧ x.Ok := by
  obtain ⟨c0, cs0, rfl, h0, hl⟩ := hl.cons
  obtain ⟨c1, cs1, rfl, h1, hl⟩ := hl.cons
  obtain ⟨c2, cs2, rfl, h2, hl⟩ := hl.cons
  obtain ⟨c3, cs3, rfl, h3, hl⟩ := hl.cons
  obtain ⟨c4, cs4, rfl, h4, hl⟩ := hl.cons
  obtain ⟨c5, cs5, rfl, h5, hl⟩ := hl.cons
  obtain ⟨c6, cs6, rfl, h6, hl⟩ := hl.cons
  obtain rfl := hl.nil
  obtain ⟨s, rfl, f0⟩ := h0.int Try.underlying3
  obtain ⟨b, rfl⟩ := h1.bool Try.underlying4
  obtain ⟨k, rfl, f2⟩ := h2.int Try.underlying3
  obtain ⟨d, rfl, f3⟩ := h3.int Try.underlying3
  obtain ⟨n, rfl, f4⟩ := h4.int Try.underlying3
  obtain ⟨m, rfl, f5⟩ := h5.int Try.underlying3
  obtain ⟨p, rfl, f6⟩ := h6.int Try.underlying3
  exact ⟨⟨s, b, k, d, n, m, p⟩, rfl, wf_i64 f0, wf_i64 f2, wf_i64 f3, wf_i64 f4, wf_i64 f5, wf_i64 f6⟩
set_option maxRecDepth 100000 in
theorem ver_arg {v : Value} {d : DataW H} {p : List MemPlace} (h : DataW.Trod enc Try.prog W 0 (fun _ => true) true 26 v d p) (ok : Value.okWide Try.prog W .any base 26 v) :
    ∃ x : Vs, v = .agg (encS x).toArray ∧ x.Ok := by
  obtain ⟨cs, rfl⟩ := okWide_agg (by kernel_rfl) ok
  obtain ⟨x, e, hx⟩ := ver_cells (arg_leaves (d := 5) (ls := [3, 4, 3, 3, 3, 3, 3]) (by kernel_rfl) h)
  obtain ⟨l⟩ := cs
  simp only [Value.cells] at e
  subst e
  exact ⟨x, rfl, hx⟩
set_option maxRecDepth 100000 in
theorem op_arg {v : Value} {d : DataW H} {p : List MemPlace} (h : DataW.Trod enc Try.prog W 0 (fun _ => true) true 31 v d p) (ok : Value.okWide Try.prog W .any base 31 v) :
    ∃ x : Vs, v = .agg (encS x).toArray ∧ x.Ok := by
  obtain ⟨cs, rfl⟩ := okWide_agg (by kernel_rfl) ok
  obtain ⟨x, e, hx⟩ := ver_cells (arg_leaves (d := 6) (ls := [3, 4, 3, 3, 3, 3, 3]) (by kernel_rfl) h)
  obtain ⟨l⟩ := cs
  simp only [Value.cells] at e
  subst e
  exact ⟨x, rfl, hx⟩
set_option maxRecDepth 100000 in
theorem ops_arg {v : Value} {d : DataW H} {p : List MemPlace} (h : DataW.Trod enc Try.prog W 0 (fun _ => true) true 22 v d p) (ok : Value.okWide Try.prog W .any base 22 v) :
    ∃ (a : Option Addr) (cap : Nat) (l : List Vs), v = .slice a l.length cap ∧ l.length ≤ cap ∧ cap ≤ 9223372036854775807 ∧ (a = none → l = []) ∧ VersAt W a l := by
  obtain ⟨a, len, cap, rfl⟩ := okWide_slice Try.underlying22 ok
  have hl := arg_leaves (d := 2) (ls := [22]) (by kernel_rfl) h
  obtain ⟨c0, cs0, e0, h0, hl⟩ := hl.cons
  obtain rfl := hl.nil
  simp only [Value.cells, List.cons.injEq, and_true] at e0
  subst e0
  have hf : flat Try.prog 6 31 = some [3, 4, 3, 3, 3, 3, 3] := by kernel_rfl
  rcases h0.slice Try.underlying22 hf with e1 | ⟨x, len', cap', e1, g1, g2, hE⟩
  · cases e1
    exact ⟨none, 0, [], rfl, Nat.le_refl _, by omega, fun _ => rfl, RowsAt.nil _ _ _ _, fun x hx => by cases hx⟩
  · cases e1
    obtain ⟨f, hf1, hf2⟩ := elems_rows hE (by simp)
    obtain ⟨g, hg⟩ : ∃ g : Nat → Vs, ∀ i, i < len → f i = encS (g i) ∧ (g i).Ok := by
      have : ∀ i, ∃ z : Vs, i < len → f i = encS z ∧ z.Ok := fun i => by
        by_cases hi : i < len
        · obtain ⟨z, e, hz⟩ := ver_cells (hf1 i hi)
          exact ⟨z, fun _ => ⟨e, hz⟩⟩
        · exact ⟨default, fun h => absurd h hi⟩
      exact ⟨fun i => (this i).choose, fun i => (this i).choose_spec⟩
    have hlen : ((List.range len).map g).length = len := by simp
    have hm : maxLen = 9223372036854775807 := rfl
    refine ⟨some x, cap, (List.range len).map g, by rw [hlen], by rw [hlen]; exact g1, by rw [← hm]; exact g2, (fun e => by cases e), ?_, fun y hy => ?_⟩
    · show RowsAt _ _ _ _ _
      rw [hlen]
      refine hf2.congr fun i hi => ?_
      rw [(hg i hi).1]
      unfold recF
      rw [List.getD_eq_getElem?_getD, List.getElem?_eq_getElem (by simpa using hi)]
      simp
    · obtain ⟨i, hi, rfl⟩ := List.mem_map.1 hy
      exact (hg i (List.mem_range.1 hi)).2
end

theorem ratio_eqIn (d : Nat) (n m n' m' : Int) (w : World) : (Op.equalIn (d + 3) 24 (.agg #[.int .i64 n, .int .i64 m]) (.agg #[.int .i64 n', .int .i64 m'])).run Try.prog w = .ok (decide (n = n' ∧ m = m')) w := by
  rw [run_equalIn_agg w (d + 2) _ _ _ (by unfold Program.fieldsOf; rw [Try.underlying24]) (by kernel_rfl)]
  unfold Program.fieldsOf
  rw [Try.underlying24]
  have q0 : ∀ x y : Int, (part 3 #[.int .i64 x, .int .i64 y] 0).run Try.prog w = .ok (.int .i64 x) w := fun x y => by kernel_rfl
  have q1 : ∀ x y : Int, (part 3 #[.int .i64 x, .int .i64 y] 1).run Try.prog w = .ok (.int .i64 y) w := fun x y => by kernel_rfl
  by_cases e1 : n = n' <;> by_cases e2 : m = m' <;>
    simp [Op.eqFields, Sem.run_bind, q0, q1, run_equalIn_int w (d + 1) _ .i64 .i64 _ _ intU, e1, e2]
set_option maxHeartbeats 2000000 in
theorem ver_eqIn (s : Int) (c : Bool) (k d n m p s' : Int) (c' : Bool) (k' d' n' m' p' : Int) (w : World) :
    (Op.equalIn 10000 26 (.agg #[.int .i64 s, .bool c, .int .i64 k, .int .i64 d, .int .i64 n, .int .i64 m, .int .i64 p]) (.agg #[.int .i64 s', .bool c', .int .i64 k', .int .i64 d', .int .i64 n', .int .i64 m', .int .i64 p'])).run Try.prog w = .ok (decide ((⟨s, c, k, d, n, m, p⟩ : Vs) = ⟨s', c', k', d', n', m', p'⟩)) w := by
  rw [run_equalIn_agg w 9999 _ _ _ (by unfold Program.fieldsOf; rw [Try.underlying26]) (by kernel_rfl)]
  unfold Program.fieldsOf
  rw [Try.underlying26]
  have q0 : ∀ (a : Int) (b : Bool) (c d e f g : Int), (part 3 #[.int .i64 a, .bool b, .int .i64 c, .int .i64 d, .int .i64 e, .int .i64 f, .int .i64 g] 0).run Try.prog w = .ok (.int .i64 a) w := fun a b c d e f g => by kernel_rfl
  have q1 : ∀ (a : Int) (b : Bool) (c d e f g : Int), (part 4 #[.int .i64 a, .bool b, .int .i64 c, .int .i64 d, .int .i64 e, .int .i64 f, .int .i64 g] 1).run Try.prog w = .ok (.bool b) w := fun a b c d e f g => by kernel_rfl
  have q2 : ∀ (a : Int) (b : Bool) (c d e f g : Int), (part 3 #[.int .i64 a, .bool b, .int .i64 c, .int .i64 d, .int .i64 e, .int .i64 f, .int .i64 g] 2).run Try.prog w = .ok (.int .i64 c) w := fun a b c d e f g => by kernel_rfl
  have q3 : ∀ (a : Int) (b : Bool) (c d e f g : Int), (part 3 #[.int .i64 a, .bool b, .int .i64 c, .int .i64 d, .int .i64 e, .int .i64 f, .int .i64 g] 3).run Try.prog w = .ok (.int .i64 d) w := fun a b c d e f g => by kernel_rfl
  have q4 : ∀ (a : Int) (b : Bool) (c d e f g : Int), (part 24 #[.int .i64 a, .bool b, .int .i64 c, .int .i64 d, .int .i64 e, .int .i64 f, .int .i64 g] 4).run Try.prog w = .ok (.agg #[.int .i64 e, .int .i64 f]) w := fun a b c d e f g => by kernel_rfl
  have q6 : ∀ (a : Int) (b : Bool) (c d e f g : Int), (part 3 #[.int .i64 a, .bool b, .int .i64 c, .int .i64 d, .int .i64 e, .int .i64 f, .int .i64 g] 6).run Try.prog w = .ok (.int .i64 g) w := fun a b c d e f g => by kernel_rfl
  have qb : ∀ x y : Bool, (Op.equalIn 9999 4 (.bool x) (.bool y)).run Try.prog w = .ok (x == y) w := fun x y => by cases x <;> cases y <;> kernel_rfl
  by_cases e0 : s = s'
  case neg => simp [Op.eqFields, Sem.run_bind, q0, q1, q2, q3, q4, q6, qb, ratio_eqIn 9996, run_equalIn_int w 9998 _ .i64 .i64 _ _ intU, e0]
  by_cases e1 : c = c'
  case neg => simp [Op.eqFields, Sem.run_bind, q0, q1, q2, q3, q4, q6, qb, ratio_eqIn 9996, run_equalIn_int w 9998 _ .i64 .i64 _ _ intU, e0, e1]
  by_cases e2 : k = k'
  case neg => simp [Op.eqFields, Sem.run_bind, q0, q1, q2, q3, q4, q6, qb, ratio_eqIn 9996, run_equalIn_int w 9998 _ .i64 .i64 _ _ intU, e0, e1, e2]
  by_cases e3 : d = d'
  case neg => simp [Op.eqFields, Sem.run_bind, q0, q1, q2, q3, q4, q6, qb, ratio_eqIn 9996, run_equalIn_int w 9998 _ .i64 .i64 _ _ intU, e0, e1, e2, e3]
  by_cases e4 : n = n'
  case neg => simp [Op.eqFields, Sem.run_bind, q0, q1, q2, q3, q4, q6, qb, ratio_eqIn 9996, run_equalIn_int w 9998 _ .i64 .i64 _ _ intU, e0, e1, e2, e3, e4]
  by_cases e5 : m = m'
  case neg => simp [Op.eqFields, Sem.run_bind, q0, q1, q2, q3, q4, q6, qb, ratio_eqIn 9996, run_equalIn_int w 9998 _ .i64 .i64 _ _ intU, e0, e1, e2, e3, e4, e5]
  by_cases e6 : p = p'
  case neg => simp [Op.eqFields, Sem.run_bind, q0, q1, q2, q3, q4, q6, qb, ratio_eqIn 9996, run_equalIn_int w 9998 _ .i64 .i64 _ _ intU, e0, e1, e2, e3, e4, e5, e6]
  simp [Op.eqFields, Sem.run_bind, q0, q1, q2, q3, q4, q6, qb, ratio_eqIn 9996, run_equalIn_int w 9998 _ .i64 .i64 _ _ intU, e0, e1, e2, e3, e4, e5, e6]
theorem ver_eql (s : Int) (c : Bool) (k d n m p s' : Int) (c' : Bool) (k' d' n' m' p' : Int) (w : World) : (binOp .eql 26 (.agg #[.int .i64 s, .bool c, .int .i64 k, .int .i64 d, .int .i64 n, .int .i64 m, .int .i64 p]) (.agg #[.int .i64 s', .bool c', .int .i64 k', .int .i64 d', .int .i64 n', .int .i64 m', .int .i64 p'])).run Try.prog w = .ok (.bool (decide ((⟨s, c, k, d, n, m, p⟩ : Vs) = ⟨s', c', k', d', n', m', p'⟩))) w := by
  rw [run_eql_struct, ver_eqIn]
  rfl
theorem ver_neq (s : Int) (c : Bool) (k d n m p s' : Int) (c' : Bool) (k' d' n' m' p' : Int) (w : World) : (binOp .neq 26 (.agg #[.int .i64 s, .bool c, .int .i64 k, .int .i64 d, .int .i64 n, .int .i64 m, .int .i64 p]) (.agg #[.int .i64 s', .bool c', .int .i64 k', .int .i64 d', .int .i64 n', .int .i64 m', .int .i64 p'])).run Try.prog w = .ok (.bool (!decide ((⟨s, c, k, d, n, m, p⟩ : Vs) = ⟨s', c', k', d', n', m', p'⟩))) w := by
  rw [run_neq_struct, ver_eqIn]
  rfl

end Go.Proofs.Ytkloijkfaooodaa
