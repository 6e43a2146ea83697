/- slices.Grow of nil over nodes. -/
import Derived.Test.YtglnnllodoljkaaDoorTermQ
import Derived.Laws.AppendOwnNone
namespace Go.Proofs.YtglnnllodoljkaaDoor
open Go.RowKit Go.Shelf
set_option linter.unusedVariables false
set_option linter.unusedSimpArgs false

theorem infoNode : (Tryd.prog.info? 47).map (fun i => (i.zero, i.size, i.bytes)) = some (some (.agg #[.int .i64 0, .int .i64 0, .int .i64 0, .int .i64 0, .int .i64 0]), 5, 40) := by kernel_rfl

theorem run_append_zeros {P : Program} {w : World} (t u ty e : TypeId) (i : TypeInfo) (z : Value) (ht : P.underlying t = some (.slice e)) (hu : P.underlying u = some (.int .i64)) (hi : P.info? e = some i) (hz : i.zero = some z)
    (n : Nat) (h0 : 0 < n) (hs0 : 0 < i.size) (h63 : (n : Int) ≤ 1000000) (hb : i.bytes ≤ 1000) :
    (Builtin.append_ #[t, u] ty #[.slice none 0 0, .int .i64 (n : Int)]).run P w =
      .ok (.slice (some ⟨w.heap.size, 0, none⟩) n (grownCap w n 0 e)) (w.drew.alloc (.cells (Builtin.zeroCells z.cells n ++ Builtin.zeroCells z.cells (grownCap w n 0 e - n)) e)) := by
  have hn : n ≠ 0 := by omega
  have hw : IntKind.i64.wrap (n : Int) = (n : Int) := IntWalk.i64_in _ (by omega)
  have hlt : ¬ ((n : Int) < 0) := by omega
  have hmul : n * i.bytes ≤ 1000000 * 1000 := Nat.mul_le_mul (by omega) hb
  have h48 : ¬ (281474976710656 < (n : Int) * (i.bytes : Int)) := by
    rw [← Int.natCast_mul]
    omega
  have h63' : ¬ (9223372036854775807 < (n : Int)) := by omega
  have h48' : ¬ (281474976710656 < Builtin.nextslicecap n 0 * i.bytes) := by rw [nextslicecap_zero h0]; omega
  have hns : ¬ (n * i.size = 0) := by
    have := Nat.mul_pos h0 hs0
    omega
  simp [Builtin.append_, run_underlying ht, run_underlying hu, sizeOf, typeInfo, zeroValue, hi, hz, asInt, hw, hn, h63', h48', Question.forced, run_firstCells_none, newRow, grownCap, hns, asIntOf, hlt, h48]

theorem wpList_append_run {P : Program} {w w' : World} {ops : Array Oper} {rest : List Oper} {o : Oper} {a : Act} {Q : Exit → Act → World → Prop} (hgd : o.guard = none) (s x : Operand) (t u : TypeId) {vs vx v : Value}
    (ho : o.op = .call { callee := .builtin .append, args := #[s, x], argTypes := #[t, u] }) (hs : a.eval s = vs) (hx : a.eval x = vx) (hrun : (Builtin.append_ #[t, u] o.type #[vs, vx]).run P w = .ok v w')
    (h : wpList P ops Q rest (a.put o.dst v) w') : wpList P ops Q (o :: rest) a w := by
  refine wpList_plain hgd fun K hK => ?_
  unfold Oper.wp
  simp [execOp, ho, resolve, invoke, builtin, hs, hx, hrun, Result.andThen]
  exact hK _ _ h

theorem slice_front (g n cap : Nat) (h : n ≤ cap) (w : World) : (Instr.slice 22 (.slice (some ⟨g, 0, none⟩) n cap) none (some (.int .i64 0)) none).run Tryd.prog w = .ok (.slice (some ⟨g, 0, none⟩) 0 cap) w := by
  have he : Tryd.prog.elem 22 = 47 := by kernel_rfl
  have hs : (sizeOf 47).run Tryd.prog w = .ok 5 w := by kernel_rfl
  have ht : Tryd.prog.underlying 22 = some (.slice (Tryd.prog.elem 22)) := by kernel_rfl
  rw [run_slice_h w 22 (some ⟨g, 0, none⟩) n cap ht .i64 0 (by omega) (by omega), he, hs]
  simp only [Result.andThen_ok, sliced]
  by_cases hc : cap = 0
  · rw [if_pos hc]; rfl
  · rw [if_neg hc]
    simp [Addr.add]

set_option maxHeartbeats 1000000 in
set_option maxRecDepth 100000 in
theorem grow_ok (n : Nat) (hn : n ≤ 1000000) (w : World) : Calls Tryd.prog 50 #[.slice none 0 0, .int .i64 n] w fun e w' => ∃ v, e = .returned v ∧ w'.ownsRow w.heap.size 47 5 v 0 [] ∧ Below w.heap.size w w' := by
  by_cases h0 : n = 0
  · subst h0
    have hz : ((0 : Nat) : Int) = 0 := rfl
    go_enter Tryd.func50, Tryd.ntmps50
    go_wp2_with fail
    go_ret
    exact ⟨_, rfl, World.ownsRow_nil _ _ _ _, Below.refl _ _⟩
  · obtain ⟨i0, hi, hz0, hz1, hz2⟩ := info_parts infoNode
    have hpos : (0 : Int) < (n : Int) := by omega
    have hap := fun (w : World) => run_append_zeros (P := Tryd.prog) (w := w) 22 3 22 47 i0 _ Tryd.underlying22 Tryd.underlying3 hi hz0 n (by omega) (by omega) (by omega) (by omega)
    have hwn : IntKind.i64.wrap (n : Int) = (n : Int) := IntWalk.i64_in _ (by omega)
    have HCP : Hid (n ≤ grownCap w n 0 47 ∧ grownCap w n 0 47 ≤ maxLen) := ⟨grownCap_ge _ _ _ _, grownCap_le_maxLen _ _ _ _ (by unfold maxLen; omega)⟩
    have hsl := fun (w' : World) => slice_front w.heap.size n (grownCap w n 0 47) HCP.out.1 w'
    have HAP := Lib.hid (hap w)
    have hap' := HAP.out
    obtain ⟨cp, hcp⟩ : ∃ c, grownCap w n 0 47 = c := ⟨_, rfl⟩
    simp only [hcp] at hap' hsl HCP
    obtain ⟨w1, hw1⟩ : ∃ w1, w.drew.alloc (.cells (Builtin.zeroCells (Value.cells (.agg #[.int .i64 0, .int .i64 0, .int .i64 0, .int .i64 0, .int .i64 0])) n ++ Builtin.zeroCells (Value.cells (.agg #[.int .i64 0, .int .i64 0, .int .i64 0, .int .i64 0, .int .i64 0])) (cp - n)) 47) = w1 := ⟨_, rfl⟩
    rw [hw1] at hap'
    have hown : Hid (w1.ownsRow w.heap.size 47 5 (.slice (some ⟨w.heap.size, 0, none⟩) 0 cp) 0 []) := by
      rw [← hw1]
      have := World.ownsRow_made (base := w.heap.size) (e := 47) (size := 5) w.drew (Builtin.zeroCells (Value.cells (.agg #[.int .i64 0, .int .i64 0, .int .i64 0, .int .i64 0, .int .i64 0])) n ++ Builtin.zeroCells (Value.cells (.agg #[.int .i64 0, .int .i64 0, .int .i64 0, .int .i64 0, .int .i64 0])) (cp - n)) cp (Nat.le_refl _) HCP.out.2 (by rw [Array.size_append, size_zeroCells, size_zeroCells]; simp only [Value.cells]; have := HCP.out.1; simp; omega)
      exact this
    have hb : Hid (Below w.heap.size w w1) := by show Below _ _ _; rw [← hw1]; exact ((Below.refl _ _).drew).alloc (Nat.le_refl _) _
    have HAR := Lib.hid hap'
    clear hap HAP hw1 hcp hap'
    go_enter Tryd.func50, Tryd.ntmps50
    go_wp2_with (at_builtin; refine wpList_append_run rfl _ _ 22 3 rfl rfl rfl HAR.out ?_)
    go_ret
    exact ⟨_, rfl, hown.out, hb.out⟩

end Go.Proofs.YtglnnllodoljkaaDoor
