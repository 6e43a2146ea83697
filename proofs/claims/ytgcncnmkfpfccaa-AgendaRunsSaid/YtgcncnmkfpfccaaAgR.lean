/- The laws' arguments, opened; == of items. -/
import Derived.Test.YtgcncnmkfpfccaaAgQ
import Derived.Laws.StructEq
import Derived.OpenShut
import Derived.ShutString
import Derived.ChangeOld
namespace Go.Proofs.Ytgcncnmkfpfccaa
open Go.RowKit
set_option linter.unusedVariables false
set_option linter.unusedSimpArgs false

/-- A call: what it asks, a day, a number. -/
structure Oq where
  a : Int
  d : Int
  n : Int
deriving DecidableEq, Inhabited
def encO (o : Oq) : List Value := [.int .i64 o.a, .int .i64 o.d, .int .i64 o.n]
def Oq.Ok (o : Oq) : Prop := (Lit.int .i64 o.a).wf = true ∧ (Lit.int .i64 o.d).wf = true ∧ (Lit.int .i64 o.n).wf = true
def OpsAt (w : World) (a : Option Addr) (l : List Oq) : Prop := RecsAt w a 3 encO l ∧ ∀ v ∈ l, v.Ok
section
open Go.ChangeShapes Go.WideShapes Go.ChangeAt
variable {H : Type} {enc : TypeId × Value → H} {base : Nat} {W : World}
theorem opq_cells {spare : Nat → Bool} {held : Bool} {cs : List Value} (hl : CellsAre (LeafOk enc Try.prog W base spare held) [3, 3, 3] cs) : ∃ x : Oq, cs = encO x ∧ x.Ok := by
  obtain ⟨c0, cs0, rfl, h0, hl⟩ := hl.cons
  obtain ⟨c1, cs1, rfl, h1, hl⟩ := hl.cons
  obtain ⟨c2, cs2, rfl, h2, hl⟩ := hl.cons
  obtain rfl := hl.nil
  obtain ⟨a, rfl, f0⟩ := h0.int Try.underlying3
  obtain ⟨d, rfl, f1⟩ := h1.int Try.underlying3
  obtain ⟨n, rfl, f2⟩ := h2.int Try.underlying3
  exact ⟨⟨a, d, n⟩, rfl, f0, f1, f2⟩
set_option maxRecDepth 100000 in
theorem opq_arg {v : Value} {d : DataW H} {p : List MemPlace} (h : DataW.Trod enc Try.prog W 0 (fun _ => true) true 36 v d p) (ok : Value.okWide Try.prog W .any base 36 v) :
    ∃ x : Oq, v = .agg (encO x).toArray ∧ x.Ok := by
  obtain ⟨cs, rfl⟩ := okWide_agg (by kernel_rfl) ok
  obtain ⟨x, e, hx⟩ := opq_cells (arg_leaves (d := 6) (ls := [3, 3, 3]) (by kernel_rfl) h)
  obtain ⟨l⟩ := cs
  simp only [Value.cells] at e
  subst e
  exact ⟨x, rfl, hx⟩
set_option maxRecDepth 100000 in
theorem opqs_arg {v : Value} {d : DataW H} {p : List MemPlace} (h : DataW.Trod enc Try.prog W 0 (fun _ => true) true 22 v d p) (ok : Value.okWide Try.prog W .any base 22 v) :
    ∃ (a : Option Addr) (cap : Nat) (l : List Oq), v = .slice a l.length cap ∧ l.length ≤ cap ∧ cap ≤ 9223372036854775807 ∧ (a = none → l = []) ∧ OpsAt W a l := by
  obtain ⟨a, len, cap, rfl⟩ := okWide_slice Try.underlying22 ok
  have hl := arg_leaves (d := 2) (ls := [22]) (by kernel_rfl) h
  obtain ⟨c0, cs0, e0, h0, hl⟩ := hl.cons
  obtain rfl := hl.nil
  simp only [Value.cells, List.cons.injEq, and_true] at e0
  subst e0
  have hf : flat Try.prog 6 36 = some [3, 3, 3] := by kernel_rfl
  rcases h0.slice Try.underlying22 hf with e1 | ⟨x, len', cap', e1, g1, g2, hE⟩
  · cases e1
    exact ⟨none, 0, [], rfl, Nat.le_refl _, by omega, fun _ => rfl, RowsAt.nil _ _ _ _, fun x hx => by cases hx⟩
  · cases e1
    obtain ⟨f, hf1, hf2⟩ := elems_rows hE (by simp)
    obtain ⟨g, hg⟩ : ∃ g : Nat → Oq, ∀ i, i < len → f i = encO (g i) ∧ (g i).Ok := by
      have : ∀ i, ∃ z : Oq, i < len → f i = encO z ∧ z.Ok := fun i => by
        by_cases hi : i < len
        · obtain ⟨z, e, hz⟩ := opq_cells (hf1 i hi)
          exact ⟨z, fun _ => ⟨e, hz⟩⟩
        · exact ⟨default, fun h => absurd h hi⟩
      exact ⟨fun i => (this i).choose, fun i => (this i).choose_spec⟩
    have hlen : ((List.range len).map g).length = len := by simp
    have hm : maxLen = 9223372036854775807 := rfl
    refine ⟨some x, cap, (List.range len).map g, by rw [hlen], by rw [hlen]; exact g1, by rw [← hm]; exact g2, (fun e => by cases e), ?_, fun y hy => ?_⟩
    · show RowsAt _ _ _ _ _
      rw [hlen]
      refine hf2.congr fun i hi => ?_
      rw [(hg i hi).1]
      unfold recF
      rw [List.getD_eq_getElem?_getD, List.getElem?_eq_getElem (by simpa using hi)]
      simp
    · obtain ⟨i, hi, rfl⟩ := List.mem_map.1 hy
      exact (hg i (List.mem_range.1 hi)).2
end

theorem item_eqIn (p c a p' c' a' : Int) (w : World) :
    (Op.equalIn 10000 31 (.agg #[.int .i64 p, .int .i64 c, .int .i64 a]) (.agg #[.int .i64 p', .int .i64 c', .int .i64 a'])).run Try.prog w = .ok (decide ((⟨p, c, a⟩ : It) = ⟨p', c', a'⟩)) w := by
  have hi : Try.prog.underlying 3 = some (.int .i64) := by kernel_rfl
  rw [run_equalIn_agg w 9999 _ _ _ (by unfold Program.fieldsOf; rw [Try.underlying31]) (by kernel_rfl)]
  unfold Program.fieldsOf
  rw [Try.underlying31]
  have q0 : ∀ x y z : Int, (part 3 #[.int .i64 x, .int .i64 y, .int .i64 z] 0).run Try.prog w = .ok (.int .i64 x) w := fun x y z => by kernel_rfl
  have q1 : ∀ x y z : Int, (part 3 #[.int .i64 x, .int .i64 y, .int .i64 z] 1).run Try.prog w = .ok (.int .i64 y) w := fun x y z => by kernel_rfl
  have q2 : ∀ x y z : Int, (part 3 #[.int .i64 x, .int .i64 y, .int .i64 z] 2).run Try.prog w = .ok (.int .i64 z) w := fun x y z => by kernel_rfl
  by_cases e1 : p = p' <;> by_cases e2 : c = c' <;> by_cases e3 : a = a' <;>
    simp [Op.eqFields, Sem.run_bind, q0, q1, q2, run_equalIn_int w 9998 _ .i64 .i64 _ _ hi, e1, e2, e3]
theorem item_eql (p c a p' c' a' : Int) (w : World) : (binOp .eql 31 (.agg #[.int .i64 p, .int .i64 c, .int .i64 a]) (.agg #[.int .i64 p', .int .i64 c', .int .i64 a'])).run Try.prog w = .ok (.bool (decide ((⟨p, c, a⟩ : It) = ⟨p', c', a'⟩))) w := by
  rw [run_eql_struct, item_eqIn]
  rfl
theorem item_neq (p c a p' c' a' : Int) (w : World) : (binOp .neq 31 (.agg #[.int .i64 p, .int .i64 c, .int .i64 a]) (.agg #[.int .i64 p', .int .i64 c', .int .i64 a'])).run Try.prog w = .ok (.bool (!decide ((⟨p, c, a⟩ : It) = ⟨p', c', a'⟩))) w := by
  rw [run_neq_struct, item_eqIn]
  rfl

end Go.Proofs.Ytgcncnmkfpfccaa
