/- Package term: what Of tells; returns past several marks. -/
import Derived.Test.YtglnnllodoljkaaDoorTermK
import Derived.Test.YtglnnllodoljkaaDoorTermL
namespace Go.Proofs.YtglnnllodoljkaaDoor
open Go.RowKit Go.Shelf
set_option linter.unusedVariables false
set_option linter.unusedSimpArgs false
attribute [local go_sem] Oper.semAt_some

/-- In a term each node begins one. -/
theorem skip_inside : ∀ (l : List Int) (k n : Nat), skip k l = some n → ∀ i, i < n → ∃ q, skip 1 (l.drop i) = some q ∧ i + q ≤ n
  | l, 0, n, h, i, hi => by
    rw [skip_zero] at h
    cases h
    omega
  | [], k + 1, n, h, _, _ => by cases h
  | op :: l, k + 1, n, h, i, hi => by
    rw [skip] at h
    by_cases h0 : shp op 0 = 0
    · rw [if_pos h0] at h
      cases h
    · rw [if_neg h0] at h
      cases e : skip (k + mny op) l with
      | none => rw [e] at h; cases h
      | some m =>
        rw [e] at h
        cases h
        cases i with
        | zero =>
          obtain ⟨m', h1, h2⟩ := skip_part e (show mny op ≤ k + mny op by omega)
          refine ⟨m' + 1, ?_, by dsimp only; omega⟩
          rw [List.drop_zero, skip, if_neg h0, Nat.zero_add, h1]
          rfl
        | succ i =>
          obtain ⟨q, h1, h2⟩ := skip_inside l _ m e i (by dsimp only at hi; omega)
          exact ⟨q, by rw [List.drop_succ_cons]; exact h1, by dsimp only; omega⟩
theorem skip_all {ns : List Nd} (h : skip 1 (opsOf ns) = some ns.length) {i : Nat} (hi : i < ns.length) : ∃ q, skip 1 ((opsOf ns).drop i) = some q ∧ i + q ≤ ns.length := skip_inside _ _ _ h i hi

/-- Whether what stands below a node is of the sorts that it has to be. -/
def sortOk (ns : List Nd) (i k : Nat) : Prop := shp (Nd.at ns (place ns i k)).op 0 = shp (Nd.at ns i).op (k + 2)
instance (ns : List Nd) (i k : Nat) : Decidable (sortOk ns i k) := inferInstanceAs (Decidable (_ = _))
def sortsOk (ns : List Nd) (i : Nat) : Prop := ∀ k, k < mny (Nd.at ns i).op → sortOk ns i k
instance (ns : List Nd) (i : Nat) : Decidable (sortsOk ns i) := inferInstanceAs (Decidable (∀ k, k < _ → sortOk ns i k))
/-- What Of answers. -/
def ofV (ns : List Nd) : Int × Int :=
  if 64 < ns.length then (0, 15) else if ns.length = 0 ∨ skip 1 (opsOf ns) ≠ some ns.length then (0, 13) else if ¬ ∀ i, i < ns.length → fieldsV (Nd.at ns i) = true then (0, 10)
  else if ¬ ∀ i, i < ns.length → sortsOk ns i then (0, 14) else if 12 < deepF ns ns.length 0 then (0, 15) else (shp (Nd.at ns 0).op 0, 0)

/-- Marks that are all open yet. -/
def Taken (base : Nat) (ds : List Deferred) (w : World) : Prop :=
  ∃ rs : List Nat, ds = rs.map (fun r => { target := .collected r, args := #[] }) ∧ rs.Nodup ∧ ∀ r ∈ rs, base ≤ r ∧ w.heap[r]? = some (.deferred (some []))
theorem Taken.nil (base : Nat) (w : World) : Taken base [] w := ⟨[], rfl, List.nodup_nil, by simp⟩
theorem Taken.kept {base : Nat} {ds : List Deferred} {w w' : World} (h : Taken base ds w) (hb : ∀ r, r < w.heap.size → w.heap[r]? = some (.deferred (some [])) → w'.heap[r]? = some (.deferred (some []))) : Taken base ds w' := by
  obtain ⟨rs, h1, h2, h3⟩ := h
  exact ⟨rs, h1, h2, fun r hr => ⟨(h3 r hr).1, hb r (Array.getElem?_eq_some_iff.1 (h3 r hr).2).1 (h3 r hr).2⟩⟩
theorem Taken.after {base : Nat} {ds : List Deferred} {w w' : World} (h : Taken base ds w) (hb : Below w.heap.size w w') : Taken base ds w' := h.kept fun r hr e => (hb.block r hr).trans e
theorem Taken.push {base : Nat} {ds : List Deferred} {w : World} {r : Nat} (h : Taken base ds w) (hr : base ≤ r) (hw : w.heap[r]? = some (.deferred (some []))) (hn : ∀ d ∈ ds, d.target ≠ .collected r) : Taken base ({ target := .collected r, args := #[] } :: ds) w := by
  obtain ⟨rs, rfl, h2, h3⟩ := h
  refine ⟨r :: rs, rfl, List.nodup_cons.2 ⟨fun hm => ?_, h2⟩, ?_⟩
  · exact hn { target := .collected r, args := #[] } (List.mem_map.2 ⟨r, hm, rfl⟩) rfl
  · intro r' hr'
    rcases List.mem_cons.1 hr' with rfl | hr'
    · exact ⟨hr, hw⟩
    · exact h3 r' hr'
theorem Taken.lt {base : Nat} {ds : List Deferred} {w : World} (h : Taken base ds w) : ∀ d ∈ ds, ∀ r, d.target = .collected r → r < w.heap.size := by
  obtain ⟨rs, rfl, h2, h3⟩ := h
  intro d hd r e
  obtain ⟨r', hr', rfl⟩ := List.mem_map.1 hd
  cases e
  exact (Array.getElem?_eq_some_iff.1 (h3 r hr').2).1

theorem leaves_taken {P : Program} {f : Func} {tmps : Array Value} {R : Ending → World → Prop} {base : Nat} : ∀ (ds : List Deferred) (w : World), Taken base ds w →
    (∀ w', Below base w w' → LeavesInM Fence.wide 5 P f tmps R [] .returning w') → LeavesInM Fence.wide 5 P f tmps R ds .returning w
  | [], w, _, h => h w (Below.refl _ _)
  | d :: ds, w, hT, h => by
    obtain ⟨rs, e1, h2, h3⟩ := hT
    cases rs with
    | nil => cases e1
    | cons r rs =>
      simp only [List.map_cons, List.cons.injEq] at e1
      obtain ⟨rfl, e2⟩ := e1
      have hr := h3 r (by simp)
      refine ⟨by simp, .inl ⟨_, _, rfl, run_takeDeferred hr.2, ?_⟩⟩
      have hbl : Below base w (w.putObj r (.deferred none)) := (Below.refl base w).grown (grownBy_putObj' w r (.deferred none)) (by have := (Array.getElem?_eq_some_iff.1 hr.2).1; omega) (fun k e => by cases e; exact hr.1)
      refine leaves_taken ds _ ⟨rs, e2, (List.nodup_cons.1 h2).2, fun r' hr' => ⟨(h3 r' (by simp [hr'])).1, ?_⟩⟩ fun w' hw' => h w' (hbl.trans hw')
      have hne : r' ≠ r := fun e => (List.nodup_cons.1 h2).1 (e ▸ hr')
      exact (World.putObj_heap_other hne).trans (h3 r' (by simp [hr'])).2

theorem shape_field2 (v0 v1 v2 v3 v4 v5 : Value) (w : World) : (Instr.field 62 (.agg #[v0, v1, v2, v3, v4, v5]) 2).run Tryd.prog w = .ok (.agg #[v2, v3, v4, v5]) w := by kernel_rfl
theorem shape_index (v2 v3 v4 v5 : Value) (w : World) : ∀ k : Nat, k < 4 → (Instr.index 60 (.agg #[v2, v3, v4, v5]) (.int .i64 (k : Int))).run Tryd.prog w = .ok (#[v2, v3, v4, v5].getD k undef) w
  | 0, _ => by kernel_rfl
  | 1, _ => by kernel_rfl
  | 2, _ => by kernel_rfl
  | 3, _ => by kernel_rfl
  | k + 4, h => by omega

end Go.Proofs.YtglnnllodoljkaaDoor
