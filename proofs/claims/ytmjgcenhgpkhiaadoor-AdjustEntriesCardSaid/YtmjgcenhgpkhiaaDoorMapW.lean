/- Maps in memory: the laws at the operations of a walk. Over any program. -/
import Derived.Test.YtmjgcenhgpkhiaaDoorMap
namespace Go.Proofs.YtmjgcenhgpkhiaaDoor
open Go.RowKit
set_option linter.unusedVariables false
set_option linter.unusedSimpArgs false

section
variable {P : Program} {k e : TypeId} {ok : Value → Prop} (w : World) {ops : Array Oper} {rest : List Oper} {o : Oper} {a : Act} {Q : Exit → Act → World → Prop} {B : Nat} {M : List (Value × Value)}

/-- 'm[k]', 'v, is := m[k]' at a key that is there. -/
theorem wpList_look_in (hg : o.guard = none) (m x : Operand) (t : TypeId) (c : Bool) (hop : o.op = Op.lookup t m x c) (K : KeyLike P k ok) (ht : P.underlying t = some (.map k e))
    (hm : a.eval m = .map (some B)) (h : MapAt ok w B M) (key v : Value) (hx : a.eval x = key) (hok : ok key) (hin : (key, v) ∈ M)
    (hK : wpList P ops Q rest (a.put o.dst (if c then .tuple #[v, .bool true] else v)) w) : wpList P ops Q (o :: rest) a w := by
  refine wpList_plain hg fun K' hK' => ?_
  have hrun := h.look_in K ht hok hin c
  unfold Oper.wp
  simp [execOp, hop, hm, hx, hrun, Result.andThen]
  exact hK' _ _ hK

/-- .. at a key that is not there. -/
theorem wpList_look_out (hg : o.guard = none) (m x : Operand) (t : TypeId) (c : Bool) (hop : o.op = Op.lookup t m x c) (K : KeyLike P k ok) (ht : P.underlying t = some (.map k e)) {z : Value} (hz : ∀ w, (zeroValue e).run P w = .ok z w)
    (hm : a.eval m = .map (some B)) (h : MapAt ok w B M) (key : Value) (hx : a.eval x = key) (hok : ok key) (hout : ∀ v, (key, v) ∉ M)
    (hK : wpList P ops Q rest (a.put o.dst (if c then .tuple #[z, .bool false] else z)) w) : wpList P ops Q (o :: rest) a w := by
  refine wpList_plain hg fun K' hK' => ?_
  have hrun := h.look_out K ht hz hok hout c
  unfold Oper.wp
  simp [execOp, hop, hm, hx, hrun, Result.andThen]
  exact hK' _ _ hK

/-- 'm[k] = v'. -/
theorem wpList_store (hg : o.guard = none) (m x v : Operand) (t : TypeId) (hop : o.op = Op.mapUpdate t m x v) (K : KeyLike P k ok) (ht : P.underlying t = some (.map k e))
    (hm : a.eval m = .map (some B)) (h : MapAt ok w B M) (key val : Value) (hx : a.eval x = key) (hv : a.eval v = val) (hok : ok key)
    (hK : ∀ w', MapAt ok w' B ((key, val) :: lessKey key M) → w.grownBy w' (some B) → w'.heap.size = w.heap.size → wpList P ops Q rest (a.put o.dst undef) w') : wpList P ops Q (o :: rest) a w := by
  refine wpList_plain hg fun K' hK' => ?_
  obtain ⟨w', hrun, r1, r2, r3⟩ := h.store K ht hok val
  unfold Oper.wp
  simp [execOp, hop, hm, hx, hv, hrun, Result.andThen]
  exact hK' _ _ (hK w' r1 r2 r3)

/-- 'delete(m, k)'. -/
theorem wpList_del (hg : o.guard = none) (m x : Operand) (t : TypeId) (hop : o.op = Op.call { callee := Callee.builtin Builtin.delete, args := #[m, x], argTypes := #[t, k] }) (K : KeyLike P k ok) (ht : P.underlying t = some (.map k e))
    (hm : a.eval m = .map (some B)) (h : MapAt ok w B M) (key : Value) (hx : a.eval x = key) (hok : ok key)
    (hK : ∀ w', MapAt ok w' B (lessKey key M) → w.grownBy w' (some B) → w'.heap.size = w.heap.size → wpList P ops Q rest (a.put o.dst (.tuple #[])) w') : wpList P ops Q (o :: rest) a w := by
  refine wpList_plain hg fun K' hK' => ?_
  obtain ⟨w', hrun, r1, r2, r3⟩ := h.del K ht hok o.type
  unfold Oper.wp
  simp [execOp, hop, resolve, invoke, builtin, hm, hx, hrun, Result.andThen]
  exact hK' _ _ (hK w' r1 r2 r3)

theorem MapAt.len {t : TypeId} (ht : P.underlying t = some (.map k e)) (h : MapAt ok w B M) (ty : TypeId) : (Builtin.len_ #[t] ty #[.map (some B)]).run P w = .ok (.int .i64 M.length) w := by
  obtain ⟨es, clock, hb, hs⟩ := h.size_eq
  simp [Builtin.len_, run_underlying ht, MapKept.run_getObj_map hb, Result.andThen, hs, goInt]

/-- 'len(m)'. -/
theorem wpList_maplen (hg : o.guard = none) (m : Operand) (t : TypeId) (hop : o.op = Op.call { callee := Callee.builtin Builtin.len, args := #[m], argTypes := #[t] }) (ht : P.underlying t = some (.map k e))
    (hm : a.eval m = .map (some B)) (h : MapAt ok w B M) (hK : wpList P ops Q rest (a.put o.dst (.int .i64 M.length)) w) : wpList P ops Q (o :: rest) a w := by
  refine wpList_plain hg fun K' hK' => ?_
  unfold Oper.wp
  simp [execOp, hop, resolve, invoke, builtin, hm, MapAt.len w ht h o.type, Result.andThen]
  exact hK' _ _ hK

/-- 'range m'. -/
theorem wpList_maprange (hg : o.guard = none) (m : Operand) (t : TypeId) (hop : o.op = Op.range t m) (ht : P.underlying t = some (.map k e)) (hm : a.eval m = .map (some B)) (h : MapAt ok w B M)
    (hK : ∀ w', IterAt ok w' B w.heap.size M M → Below w.heap.size w w' → w'.heap.size = w.heap.size + 1 → wpList P ops Q rest (a.put o.dst (.pointer (some ⟨w.heap.size, 0, none⟩))) w') : wpList P ops Q (o :: rest) a w := by
  refine wpList_plain hg fun K' hK' => ?_
  obtain ⟨w', hrun, r1, r2, r3⟩ := h.range (P := P) ht
  unfold Oper.wp
  simp [execOp, hop, hm, hrun, Result.andThen]
  exact hK' _ _ (hK w' r1 r2 r3)

/-- A range's step. -/
theorem wpList_mapnext (hg : o.guard = none) (it : Operand) (hop : o.op = Op.next it false) (r : Nat) (left : List (Value × Value)) (hit : a.eval it = .pointer (some ⟨r, 0, none⟩)) (h : IterAt ok w B r M left)
    (hDone : left = [] → wpList P ops Q rest (a.put o.dst (.tuple #[.bool false])) w)
    (hMore : ∀ (x v : Value) (lf : List (Value × Value)) (w' : World), left.Perm ((x, v) :: lf) → IterAt ok w' B r M lf → w.grownBy w' (some r) → w'.heap.size = w.heap.size →
      (∀ w2, w2.heap[B]? = w'.heap[B]? → w2.heap[r]? = w'.heap[r]? → (Instr.entry (.pointer (some ⟨r, 0, none⟩))).run P w2 = .ok (.tuple #[x, v]) w2) → wpList P ops Q rest (a.put o.dst (.tuple #[.bool true, x, v])) w') :
    wpList P ops Q (o :: rest) a w := by
  refine wpList_plain hg fun K' hK' => ?_
  unfold Oper.wp
  rcases h.next (P := P) o.type with ⟨hl, hrun⟩ | ⟨x, v, lf, w', h1, hrun, h2, h3, h4, h5⟩
  · simp [execOp, hop, hit, hrun, Result.andThen]
    exact hK' _ _ (hDone hl)
  · simp [execOp, hop, hit, hrun, Result.andThen]
    exact hK' _ _ (hMore x v lf w' h1 h2 h3 h4 h5)
end
end Go.Proofs.YtmjgcenhgpkhiaaDoor
