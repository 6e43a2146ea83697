/- Maps in memory, as lists of entries in whatever order: look-up, store, delete, len, clone, range. Over any program, for keys that are integers, or structs of plain cells. -/
import Derived.Test.YtmjgcenhgpkhiaaDoorMgC
import Derived.Maps.RangeWalk
import Derived.Maps.OwnSet
import Derived.Laws.StructEq
import Derived.Laws.AppendOwnNone
import Derived.Test.YtmjgcenhgpkhiaaDoorEntI
import Derived.Deep.RegionHeld3
import Derived.Deep.DrawnRows
import Derived.Deep.QuietTactic
import Derived.BigGuardPart
import Derived.BigQuiet
namespace Go.Proofs.YtmjgcenhgpkhiaaDoor
open Go.RowKit
open Go.ChangeMaps (setBlock heap_setBlock_same heap_setBlock_other modify_eq_set)
set_option linter.unusedVariables false
set_option linter.unusedSimpArgs false

section
variable {P : Program} {k : TypeId} {ok : Value → Prop}

/-- What is asked of a key's type: of keys of which 'ok' holds. -/
structure KeyLike (P : Program) (k : TypeId) (ok : Value → Prop) : Prop where
  check : ∀ (w : World) (em : Bool) {v : Value}, ok v → (Instr.checkKey em 10000 k v).run P w = .ok () w
  find : ∀ (w : World) {x : Value}, ok x → ∀ es : List MapEntry, (∀ e ∈ es, ok e.key) →
    ((Instr.findKey k x es).run P w = .ok none w ∧ ∀ e ∈ es, e.key ≠ x) ∨ ∃ j e, (Instr.findKey k x es).run P w = .ok (some (j, e.val)) w ∧ es[j]? = some e ∧ e.key = x
  stays : ∀ (w : World) {v : Value}, ok v → (Instr.keyThatStays v v).run P w = .ok v w

theorem KeyLike.of_keyed (K : Maps.Keyed P k) : KeyLike P k (fun v => ∃ l, keyOf P k v = some l) where
  check w em v h := by obtain ⟨l, h⟩ := h; exact K.check w em h
  find w x h es hes := by obtain ⟨l, h⟩ := h; exact K.find w h es hes
  stays w v h := by obtain ⟨l, h⟩ := h; exact K.stays w h

theorem KeyLike.ints (hk : P.underlying k = some (.int .i64)) : KeyLike P k (fun v => ∃ n : Int, v = .int .i64 n ∧ (Lit.int .i64 n).wf = true) where
  check w em v h := by
    obtain ⟨n, rfl, hn⟩ := h
    exact (Maps.int_keyed hk).check w em (Maps.keyOf_int_mk hk hn)
  find w x h es hes := by
    obtain ⟨n, rfl, hn⟩ := h
    exact (Maps.int_keyed hk).find w (Maps.keyOf_int_mk hk hn) es (fun e he => by
      obtain ⟨m, hm, hw⟩ := hes e he
      exact ⟨_, by rw [hm]; exact Maps.keyOf_int_mk hk hw⟩)
  stays w v h := by
    obtain ⟨n, rfl, hn⟩ := h
    exact (Maps.int_keyed hk).stays w (Maps.keyOf_int_mk hk hn)

theorem findAsking_run (he : ∀ w x y, ok x → ok y → ∃ b : Bool, (Op.equal k x y).run P w = .ok b w ∧ (b = true ↔ x = y)) (w : World) {x : Value} (hx : ok x) : ∀ (es : List MapEntry) (i : Nat), (∀ e ∈ es, ok e.key) →
    ((Instr.findAsking k x es i).run P w = .ok none w ∧ ∀ e ∈ es, e.key ≠ x) ∨ ∃ j e, (Instr.findAsking k x es i).run P w = .ok (some (i + j, e.val)) w ∧ es[j]? = some e ∧ e.key = x
  | [], i, _ => Or.inl ⟨rfl, fun e h => by cases h⟩
  | e :: es, i, h => by
    obtain ⟨b, hb, hbx⟩ := he w x e.key hx (h e (by simp))
    cases b with
    | true =>
      refine Or.inr ⟨0, e, ?_, rfl, (hbx.1 rfl).symm⟩
      simp [Instr.findAsking, Sem.run_bind, hb]
    | false =>
      have hne : e.key ≠ x := fun h' => by
        have := hbx.2 h'.symm
        cases this
      rcases findAsking_run he w hx es (i + 1) (fun y hy => h y (by simp [hy])) with ⟨h1, h2⟩ | ⟨j, e0, h1, h2, h3⟩
      · refine Or.inl ⟨?_, fun y hy => ?_⟩
        · simp [Instr.findAsking, Sem.run_bind, hb, h1]
        · rcases List.mem_cons.1 hy with rfl | hy
          · exact hne
          · exact h2 y hy
      · refine Or.inr ⟨j + 1, e0, ?_, by simpa using h2, h3⟩
        simp [Instr.findAsking, Sem.run_bind, hb, h1]
        omega

theorem KeyLike.struct {fs : Array Field} (hk : P.underlying k = some (.struct fs)) (hc : ∀ (w : World) (em : Bool) {v : Value}, ok v → (Instr.checkKey em 10000 k v).run P w = .ok () w)
    (he : ∀ w x y, ok x → ok y → ∃ b : Bool, (Op.equal k x y).run P w = .ok b w ∧ (b = true ↔ x = y)) (hs : ∀ v, ok v → Instr.sameBits 10000 v v = true) : KeyLike P k ok where
  check := hc
  find w x hx es hes := by
    cases es with
    | nil => exact Or.inl ⟨by simp [Instr.findKey, run_underlying hk, Instr.findNow, Result.andThen], fun e h => by cases h⟩
    | cons e es =>
      have h0 : Instr.findNow (.struct fs) x (e :: es) 0 = none := by simp [Instr.findNow, Instr.sameNow]
      have h1 : (Instr.findKey k x (e :: es)).run P w = (Instr.findAsking k x (e :: es) 0).run P w := by
        simp [Instr.findKey, run_underlying hk, h0, Result.andThen]
      rw [h1]
      rcases findAsking_run he w hx (e :: es) 0 hes with h | ⟨j, e0, h2, h3, h4⟩
      · exact Or.inl h
      · exact Or.inr ⟨j, e0, by simpa using h2, h3, h4⟩
  stays w v hv := by simp [Instr.keyThatStays, hs v hv]

/-- An entry, as a pair. -/
def kv (e : MapEntry) : Value × Value := (e.key, e.val)

/-- What a list of a map's entries is, beside its clock: 'm', in whatever order. -/
structure EntriesAre (ok : Value → Prop) (es : Array MapEntry) (clock : Nat) (m : List (Value × Value)) : Prop where
  perm : (es.toList.map kv).Perm m
  keys : (m.map (·.1)).Nodup
  oks : ∀ p ∈ m, ok p.1
  born : (es.toList.map (·.born)).Nodup
  old : ∀ e ∈ es.toList, e.born < clock

/-- Block B is a map that has the entries m. -/
def MapAt (ok : Value → Prop) (w : World) (B : Nat) (m : List (Value × Value)) : Prop :=
  ∃ es clock, w.heap[B]? = some (.map es clock) ∧ EntriesAre ok es clock m

variable {w w' : World} {B : Nat} {m : List (Value × Value)}

theorem MapAt.made (ok : Value → Prop) (w : World) : MapAt ok (w.alloc (.map #[] 0)) w.heap.size [] :=
  ⟨#[], 0, (MapKept.heap_alloc w _).1, ⟨List.Perm.refl _, List.nodup_nil, (fun _ h => by cases h), List.nodup_nil, fun _ h => by simp at h⟩⟩
theorem MapAt.lt (h : MapAt ok w B m) : B < w.heap.size := by
  obtain ⟨es, c, h, _⟩ := h
  exact (Array.getElem?_eq_some_iff.1 h).1
theorem MapAt.kept {row : Option Nat} (h : MapAt ok w B m) (hg : w.grownBy w' row) (hr : row ≠ some B) : MapAt ok w' B m := by
  have hl := h.lt
  obtain ⟨es, c, h, he⟩ := h
  exact ⟨es, c, (hg.block B hl (fun e => hr e.symm)).trans h, he⟩
theorem MapAt.after (h : MapAt ok w B m) (hb : Below w.heap.size w w') : MapAt ok w' B m := h.kept (below_row hb none) (by simp)
theorem MapAt.below {n : Nat} (h : MapAt ok w B m) (hb : Below n w w') (hB : B < n) : MapAt ok w' B m := by
  obtain ⟨es, c, h, he⟩ := h
  exact ⟨es, c, (hb.block B hB).trans h, he⟩
theorem MapAt.block (h : MapAt ok w B m) (hb : w'.heap[B]? = w.heap[B]?) : MapAt ok w' B m := by
  obtain ⟨es, c, h, he⟩ := h
  exact ⟨es, c, hb.trans h, he⟩
theorem MapAt.congr {m' : List (Value × Value)} (h : MapAt ok w B m) (hp : m.Perm m') : MapAt ok w B m' := by
  obtain ⟨es, c, h, he⟩ := h
  exact ⟨es, c, h, ⟨he.perm.trans hp, ((hp.map _).nodup_iff).1 he.keys, fun p hp' => he.oks p (hp.mem_iff.2 hp'), he.born, he.old⟩⟩
theorem MapAt.nodup (h : MapAt ok w B m) : (m.map (·.1)).Nodup := by
  obtain ⟨es, c, h, he⟩ := h
  exact he.keys
theorem MapAt.isOk (h : MapAt ok w B m) : ∀ p ∈ m, ok p.1 := by
  obtain ⟨es, c, h, he⟩ := h
  exact he.oks

theorem EntriesAre.okE {es : Array MapEntry} {clock : Nat} (h : EntriesAre ok es clock m) : ∀ e ∈ es.toList, ok e.key := fun e he =>
  h.oks (kv e) (h.perm.mem_iff.1 (List.mem_map.2 ⟨e, he, rfl⟩))

/-- Of one key there is one entry. -/
theorem one_entry {m : List (Value × Value)} (h : (m.map (·.1)).Nodup) {x u v : Value} (hu : (x, u) ∈ m) (hv : (x, v) ∈ m) : u = v := by
  induction m with
  | nil => cases hu
  | cons p m ih =>
    simp only [List.map_cons, List.nodup_cons, List.mem_map, not_exists, not_and] at h
    rcases List.mem_cons.1 hu with e | hu'
    · rcases List.mem_cons.1 hv with e' | hv'
      · rw [← e] at e'
        cases e'
        rfl
      · exact absurd (by rw [← e]) (h.1 _ hv')
    · rcases List.mem_cons.1 hv with e' | hv'
      · exact absurd (by rw [← e']) (h.1 _ hu')
      · exact ih h.2 hu' hv'

/-! ### look-up -/
theorem MapAt.look_in (K : KeyLike P k ok) {t e : TypeId} (ht : P.underlying t = some (.map k e)) (h : MapAt ok w B m) {x v : Value} (hx : ok x) (hm : (x, v) ∈ m) (c : Bool) :
    (Instr.lookup t (.map (some B)) x c).run P w = .ok (if c then .tuple #[v, .bool true] else v) w := by
  obtain ⟨es, clock, hb, he⟩ := h
  rcases K.find w hx es.toList he.okE with ⟨h1, h2⟩ | ⟨j, e0, h1, h2, h3⟩
  · obtain ⟨e0, h3, h4⟩ := List.mem_map.1 (he.perm.mem_iff.2 hm)
    exact absurd (congrArg Prod.fst h4) (h2 e0 h3)
  · have hv : e0.val = v := one_entry he.keys (he.perm.mem_iff.1 (List.mem_map.2 ⟨e0, List.mem_of_getElem? h2, by unfold kv; rw [h3]⟩)) hm
    simp [Instr.lookup, run_underlying ht, MapKept.run_getObj_map hb, K.check w _ hx, h1, Result.andThen, hv]

theorem MapAt.look_out (K : KeyLike P k ok) {t e : TypeId} (ht : P.underlying t = some (.map k e)) {z : Value} (hz : ∀ w, (zeroValue e).run P w = .ok z w) (h : MapAt ok w B m) {x : Value} (hx : ok x) (hm : ∀ v, (x, v) ∉ m) (c : Bool) :
    (Instr.lookup t (.map (some B)) x c).run P w = .ok (if c then .tuple #[z, .bool false] else z) w := by
  obtain ⟨es, clock, hb, he⟩ := h
  rcases K.find w hx es.toList he.okE with ⟨h1, h2⟩ | ⟨j, e0, h1, h2, h3⟩
  · simp [Instr.lookup, run_underlying ht, MapKept.run_getObj_map hb, K.check w _ hx, h1, hz w, Result.andThen]
  · exact absurd (he.perm.mem_iff.1 (List.mem_map.2 ⟨e0, List.mem_of_getElem? h2, by unfold kv; rw [h3]⟩)) (hm e0.val)

/-! ### store, delete -/
open Classical in
/-- A list of entries less that of a key. -/
noncomputable def lessKey (x : Value) (m : List (Value × Value)) : List (Value × Value) := m.filter fun p => decide (p.1 ≠ x)
theorem mem_lessKey {x : Value} {m : List (Value × Value)} {p : Value × Value} : p ∈ lessKey x m ↔ p ∈ m ∧ p.1 ≠ x := by
  unfold lessKey
  simp
theorem lessKey_none {x : Value} {m : List (Value × Value)} (h : ∀ v, (x, v) ∉ m) : lessKey x m = m := by
  unfold lessKey
  refine List.filter_eq_self.2 fun p hp => ?_
  simp only [ne_eq, decide_eq_true_eq]
  rintro rfl
  exact h p.2 hp
theorem lessKey_nodup {x : Value} {m : List (Value × Value)} (h : (m.map (·.1)).Nodup) : ((lessKey x m).map (·.1)).Nodup :=
  List.Nodup.sublist (List.Sublist.map _ (by unfold lessKey; exact List.filter_sublist)) h
theorem lessKey_perm {x : Value} {m m' : List (Value × Value)} (h : m.Perm m') : (lessKey x m).Perm (lessKey x m') := h.filter _
theorem lessKey_cons_perm {x v : Value} : ∀ {m : List (Value × Value)}, (m.map (·.1)).Nodup → (x, v) ∈ m → m.Perm ((x, v) :: lessKey x m)
  | [], _, h => by cases h
  | p :: m, hn, h => by
    simp only [List.map_cons, List.nodup_cons, List.mem_map, not_exists, not_and] at hn
    rcases List.mem_cons.1 h with rfl | h
    · have : lessKey x ((x, v) :: m) = m := by
        have h2 : lessKey x m = m := lessKey_none fun u hu => hn.1 _ hu rfl
        unfold lessKey at h2 ⊢
        rw [List.filter_cons, if_neg (by simp), h2]
      rw [this]
    · have hne : p.1 ≠ x := fun e => hn.1 _ h e.symm
      have : lessKey x (p :: m) = p :: lessKey x m := by
        unfold lessKey
        rw [List.filter_cons, if_pos (by simp [hne])]
      rw [this]
      exact ((lessKey_cons_perm hn.2 h).cons p).trans (List.Perm.swap _ _ _)

theorem set_perm_of {α : Type} : ∀ (l : List α) (j : Nat) (a b : α), l[j]? = some a → ∃ r, l.Perm (a :: r) ∧ (l.set j b).Perm (b :: r)
  | [], j, a, b, h => by simp at h
  | x :: l, 0, a, b, h => by
    simp only [List.getElem?_cons_zero, Option.some.injEq] at h
    subst h
    exact ⟨l, List.Perm.refl _, List.Perm.refl _⟩
  | x :: l, j + 1, a, b, h => by
    obtain ⟨r, h1, h2⟩ := set_perm_of l j a b (by simpa using h)
    exact ⟨x :: r, (h1.cons x).trans (List.Perm.swap _ _ _), ((h2.cons x).trans (List.Perm.swap _ _ _))⟩

/-- The store. -/
theorem MapAt.store (K : KeyLike P k ok) {t e : TypeId} (ht : P.underlying t = some (.map k e)) (h : MapAt ok w B m) {x : Value} (hx : ok x) (v : Value) :
    ∃ w', (Instr.mapUpdate t (.map (some B)) x v).run P w = .ok () w' ∧ MapAt ok w' B ((x, v) :: lessKey x m) ∧ w.grownBy w' (some B) ∧ w'.heap.size = w.heap.size := by
  obtain ⟨es, clock, hb, he⟩ := h
  have grow : ∀ o, w.grownBy (setBlock w B o) (some B) := fun o => ⟨rfl, rfl, rfl, by simp [setBlock], fun i _ hi => heap_setBlock_other hb _ (fun e => hi (by rw [e]))⟩
  rcases K.find w hx es.toList he.okE with ⟨h1, h2⟩ | ⟨j, e0, h1, h2, h3⟩
  · have hno : ∀ u, (x, u) ∉ m := fun u hu => by
      obtain ⟨e0, h3, h4⟩ := List.mem_map.1 (he.perm.mem_iff.2 hu)
      exact h2 e0 h3 (congrArg Prod.fst h4)
    refine ⟨setBlock w B (.map (es.push ⟨x, v, clock⟩) (clock + 1)), ?_, ⟨_, _, heap_setBlock_same hb _, ⟨?_, ?_, ?_, ?_, ?_⟩⟩, grow _, by simp [setBlock]⟩
    · simp [Instr.mapUpdate, run_underlying ht, MapKept.run_getObj_map hb, K.check w false hx, h1, MapKept.run_setObj_map _ hb, Result.andThen, setBlock]
    · rw [lessKey_none hno, Array.toList_push, List.map_append, List.map_singleton]
      exact (List.perm_append_singleton _ _).trans (he.perm.cons _)
    · rw [lessKey_none hno, List.map_cons, List.nodup_cons]
      refine ⟨fun h' => ?_, he.keys⟩
      obtain ⟨p, hp, e⟩ := List.mem_map.1 h'
      exact hno p.2 (by rw [show x = p.1 from e.symm]; exact hp)
    · rw [lessKey_none hno]
      intro p hp
      rcases List.mem_cons.1 hp with rfl | hp
      · exact hx
      · exact he.oks p hp
    · rw [Array.toList_push, List.map_append, List.map_singleton]
      refine List.nodup_append.2 ⟨he.born, by simp, fun a ha b hb' => ?_⟩
      obtain ⟨e0, h3, rfl⟩ := List.mem_map.1 ha
      have := he.old e0 h3
      simp at hb'
      omega
    · intro e' he'
      rw [Array.toList_push] at he'
      rcases List.mem_append.1 he' with h' | h'
      · have := he.old e' h'
        omega
      · simp at h'
        subst h'
        simp
  · have hj : es[j]? = some e0 := by simpa using h2
    obtain ⟨r, r1, r2⟩ := set_perm_of es.toList j e0 { e0 with key := x, val := v } h2
    have hlist : (es.modify j (fun e' => { e' with key := x, val := v })).toList = es.toList.set j { e0 with key := x, val := v } := by rw [Array.toList_modify, modify_eq_set _ _ _ _ h2]
    have hm0 : (kv e0 :: r.map kv).Perm m := ((r1.map kv).symm.trans he.perm)
    have hin : (x, e0.val) ∈ m := hm0.mem_iff.1 (by rw [← h3]; exact List.mem_cons_self)
    have hr : (r.map kv).Perm (lessKey x m) := by
      have a1 := (hm0.trans (lessKey_cons_perm he.keys hin))
      have a2 : kv e0 = (x, e0.val) := by unfold kv; rw [h3]
      rw [a2] at a1
      exact (List.perm_cons _).1 a1
    refine ⟨setBlock w B (.map (es.modify j (fun e' => { e' with key := x, val := v })) clock), ?_, ⟨_, _, heap_setBlock_same hb _, ⟨?_, ?_, ?_, ?_, ?_⟩⟩, grow _, by simp [setBlock]⟩
    · simp [Instr.mapUpdate, run_underlying ht, MapKept.run_getObj_map hb, K.check w false hx, h1, hj, h3, K.stays w hx, MapKept.run_setObj_map _ hb, Result.andThen, setBlock]
    · rw [hlist]
      exact (r2.map kv).trans (hr.cons _)
    · rw [List.map_cons, List.nodup_cons]
      refine ⟨fun h' => ?_, lessKey_nodup he.keys⟩
      obtain ⟨p, hp, e⟩ := List.mem_map.1 h'
      exact (mem_lessKey.1 hp).2 e
    · intro p hp
      rcases List.mem_cons.1 hp with rfl | hp
      · exact hx
      · exact he.oks p (mem_lessKey.1 hp).1
    · rw [hlist]
      have a1 := (r2.map (·.born)).nodup_iff
      have a2 := (r1.map (·.born)).nodup_iff
      rw [List.map_cons] at a1 a2
      exact a1.2 (a2.1 he.born)
    · intro e' he'
      rw [hlist] at he'
      rcases List.mem_cons.1 (r2.mem_iff.1 he') with rfl | h'
      · exact he.old e0 (List.mem_of_getElem? h2)
      · exact he.old e' (r1.mem_iff.2 (List.mem_cons_of_mem _ h'))

theorem eraseIdx_perm_of {α : Type} : ∀ (l : List α) (j : Nat) (a : α), l[j]? = some a → l.Perm (a :: l.eraseIdx j)
  | [], j, a, h => by simp at h
  | x :: l, 0, a, h => by
    simp only [List.getElem?_cons_zero, Option.some.injEq] at h
    subst h
    exact List.Perm.refl _
  | x :: l, j + 1, a, h => ((eraseIdx_perm_of l j a (by simpa using h)).cons x).trans (List.Perm.swap _ _ _)

/-- The delete. -/
theorem MapAt.del (K : KeyLike P k ok) {t e : TypeId} (ht : P.underlying t = some (.map k e)) (h : MapAt ok w B m) {x : Value} (hx : ok x) (ty : TypeId) :
    ∃ w', (Builtin.delete_ #[t, k] ty #[.map (some B), x]).run P w = .ok (.tuple #[]) w' ∧ MapAt ok w' B (lessKey x m) ∧ w.grownBy w' (some B) ∧ w'.heap.size = w.heap.size := by
  obtain ⟨es, clock, hb, he⟩ := h
  have grow : ∀ o, w.grownBy (setBlock w B o) (some B) := fun o => ⟨rfl, rfl, rfl, by simp [setBlock], fun i _ hi => heap_setBlock_other hb _ (fun e => hi (by rw [e]))⟩
  rcases K.find w hx es.toList he.okE with ⟨h1, h2⟩ | ⟨j, e0, h1, h2, h3⟩
  · have hno : ∀ u, (x, u) ∉ m := fun u hu => by
      obtain ⟨e0, h3, h4⟩ := List.mem_map.1 (he.perm.mem_iff.2 hu)
      exact h2 e0 h3 (congrArg Prod.fst h4)
    refine ⟨setBlock w B (.map es clock), ?_, ⟨es, clock, heap_setBlock_same hb _, by rw [lessKey_none hno]; exact he⟩, grow _, by simp [setBlock]⟩
    simp [Builtin.delete_, run_underlying ht, MapKept.run_getObj_map hb, K.check w _ hx, h1, MapKept.run_setObj_map _ hb, Result.andThen, setBlock]
  · have hjl : j < es.toList.length := (List.getElem?_eq_some_iff.1 h2).1
    have hjs : j < es.size := by simpa using hjl
    have hsub : (es.eraseIdxIfInBounds j).toList = es.toList.eraseIdx j := by
      unfold Array.eraseIdxIfInBounds
      rw [dif_pos hjs]
      simp
    have r1 := eraseIdx_perm_of es.toList j e0 h2
    have hm0 : (kv e0 :: (es.toList.eraseIdx j).map kv).Perm m := ((r1.map kv).symm.trans he.perm)
    have hin : (x, e0.val) ∈ m := hm0.mem_iff.1 (by rw [← h3]; exact List.mem_cons_self)
    have hr : ((es.toList.eraseIdx j).map kv).Perm (lessKey x m) := by
      have a1 := (hm0.trans (lessKey_cons_perm he.keys hin))
      have a2 : kv e0 = (x, e0.val) := by unfold kv; rw [h3]
      rw [a2] at a1
      exact (List.perm_cons _).1 a1
    refine ⟨setBlock w B (.map (es.eraseIdxIfInBounds j) clock), ?_, ⟨_, _, heap_setBlock_same hb _, ⟨?_, lessKey_nodup he.keys, fun p hp => he.oks p (mem_lessKey.1 hp).1, ?_, ?_⟩⟩, grow _, by simp [setBlock]⟩
    · simp [Builtin.delete_, run_underlying ht, MapKept.run_getObj_map hb, K.check w _ hx, h1, MapKept.run_setObj_map _ hb, Result.andThen, setBlock]
    · rw [hsub]
      exact hr
    · rw [hsub]
      have a2 := (r1.map (·.born)).nodup_iff
      rw [List.map_cons, List.nodup_cons] at a2
      exact (a2.1 he.born).2
    · intro e' he'
      rw [hsub] at he'
      exact he.old e' ((List.eraseIdx_sublist _ _).subset he')

/-- How many there are. -/
theorem MapAt.size_eq (h : MapAt ok w B m) : ∃ es clock, w.heap[B]? = some (.map es clock) ∧ es.size = m.length := by
  obtain ⟨es, clock, hb, he⟩ := h
  exact ⟨es, clock, hb, by have := he.perm.length_eq; simpa using this⟩

/-! ### range -/
/-- A range over the map in block B is under way, by the iterator in block r: 'left' is still to come. -/
def IterAt (ok : Value → Prop) (w : World) (B r : Nat) (m left : List (Value × Value)) : Prop :=
  ∃ es clock since seen c0, w.heap[B]? = some (.map es clock) ∧ EntriesAre ok es clock m ∧ w.heap[r]? = some (.mapIter (some B) since seen c0) ∧ (∀ x ∈ es.toList, x.born < since) ∧
    ((leftOf es seen).toList.map kv).Perm left ∧ since ≤ c0 ∧ since ≤ clock

variable {r : Nat} {left : List (Value × Value)}
theorem IterAt.map (h : IterAt ok w B r m left) : MapAt ok w B m := by
  obtain ⟨es, clock, since, seen, c0, hb, he, _⟩ := h
  exact ⟨es, clock, hb, he⟩
theorem IterAt.lt (h : IterAt ok w B r m left) : r < w.heap.size := by
  obtain ⟨es, clock, since, seen, c0, hb, he, hr, _⟩ := h
  exact (Array.getElem?_eq_some_iff.1 hr).1
theorem IterAt.ne (h : IterAt ok w B r m left) : r ≠ B := by
  obtain ⟨es, clock, since, seen, c0, hb, he, hr, _⟩ := h
  rintro rfl
  rw [hb] at hr
  cases hr
theorem IterAt.kept {row : Option Nat} (h : IterAt ok w B r m left) (hg : w.grownBy w' row) (hr1 : row ≠ some B) (hr2 : row ≠ some r) : IterAt ok w' B r m left := by
  have h1 := h.map.lt
  have h2 := h.lt
  obtain ⟨es, clock, since, seen, c0, hb, he, hr, rest⟩ := h
  exact ⟨es, clock, since, seen, c0, (hg.block B h1 (fun e => hr1 e.symm)).trans hb, he, (hg.block r h2 (fun e => hr2 e.symm)).trans hr, rest⟩
theorem IterAt.after (h : IterAt ok w B r m left) (hb : Below w.heap.size w w') : IterAt ok w' B r m left := h.kept (below_row hb none) (by simp) (by simp)
/-- What is left is of the map. -/
theorem IterAt.sub (h : IterAt ok w B r m left) : ∀ p ∈ left, p ∈ m := by
  obtain ⟨es, clock, since, seen, c0, hb, he, hr, ho, hl, _⟩ := h
  intro p hp
  obtain ⟨e, h1, rfl⟩ := List.mem_map.1 (hl.mem_iff.2 hp)
  refine he.perm.mem_iff.1 (List.mem_map.2 ⟨e, ?_, rfl⟩)
  unfold leftOf at h1
  simp at h1
  simpa using h1.1

theorem MapAt.range {t e : TypeId} (ht : P.underlying t = some (.map k e)) (h : MapAt ok w B m) :
    ∃ w', (Instr.range t (.map (some B))).run P w = .ok (.pointer (some ⟨w.heap.size, 0, none⟩)) w' ∧ IterAt ok w' B w.heap.size m m ∧ Below w.heap.size w w' ∧ w'.heap.size = w.heap.size + 1 := by
  have hlt := h.lt
  obtain ⟨es, clock, hb, he⟩ := h
  refine ⟨_, run_range_map w t k e B es clock ht hb, ⟨es, clock, clock, #[], clock, ((MapKept.heap_alloc w _).2 B hlt).trans hb, he, (MapKept.heap_alloc w _).1, he.old, ?_, Nat.le_refl _, Nat.le_refl _⟩, (Below.refl _ _).alloc (Nat.le_refl _) _, by simp⟩
  have : leftOf es #[] = es := by
    unfold leftOf
    simp
  rw [this]
  exact he.perm

theorem filter_born : ∀ (l : List MapEntry) (e : MapEntry), e ∈ l → (l.map (·.born)).Nodup → l.Perm (e :: l.filter fun x => x.born != e.born)
  | [], e, h, _ => by cases h
  | y :: l, e, h, hn => by
    simp only [List.map_cons, List.nodup_cons, List.mem_map, not_exists, not_and] at hn
    rcases List.mem_cons.1 h with rfl | h
    · have : (e :: l).filter (fun x => x.born != e.born) = l := by
        rw [List.filter_cons, if_neg (by simp)]
        refine List.filter_eq_self.2 fun x hx => ?_
        have := hn.1 x hx
        simpa using this
      rw [this]
    · have hne : y.born ≠ e.born := fun e' => hn.1 e h e'.symm
      rw [List.filter_cons, if_pos (by simpa using hne)]
      exact ((filter_born l e h hn.2).cons y).trans (List.Perm.swap _ _ _)

/-- The step. -/
theorem IterAt.next (h : IterAt ok w B r m left) (ty : TypeId) :
    (left = [] ∧ (Instr.next (.pointer (some ⟨r, 0, none⟩)) false ty).run P w = .ok (.tuple #[.bool false]) w) ∨
    ∃ x v rest w', left.Perm ((x, v) :: rest) ∧ (Instr.next (.pointer (some ⟨r, 0, none⟩)) false ty).run P w = .ok (.tuple #[.bool true, x, v]) w' ∧ IterAt ok w' B r m rest ∧ w.grownBy w' (some r) ∧ w'.heap.size = w.heap.size ∧
      (∀ w2, w2.heap[B]? = w'.heap[B]? → w2.heap[r]? = w'.heap[r]? → (Instr.entry (.pointer (some ⟨r, 0, none⟩))).run P w2 = .ok (.tuple #[x, v]) w2) := by
  have hne := h.ne
  have hrl := h.lt
  obtain ⟨es, clock, since, seen, c0, hb, he, hr, ho, hl, hs1, hs2⟩ := h
  rcases run_next_at (P := P) w ty r B since c0 seen es clock hr hb ho hs1 with ⟨h0, hrun⟩ | ⟨e, hm, w1, hw1, hrun⟩
  · have : leftOf es seen = #[] := Array.eq_empty_of_size_eq_zero h0
    rw [this] at hl
    exact Or.inl ⟨(List.nil_perm.1 hl), hrun⟩
  · have hem : e ∈ es.toList := by
      unfold leftOf at hm
      simp at hm
      simpa using hm.1
    have hw1b : w1.heap = w.heap := by rcases hw1 with rfl | rfl <;> rfl
    have hset : ∀ o : Obj, (setBlock w1 r o).heap[r]? = some o := fun o => by
      unfold setBlock
      rw [hw1b]
      simp [hrl]
    have hoth : ∀ (o : Obj) (i : Nat), i ≠ r → (setBlock w1 r o).heap[i]? = w.heap[i]? := fun o i hi => by
      unfold setBlock
      rw [hw1b]
      show (w.heap.setIfInBounds r o)[i]? = _
      rw [Array.getElem?_setIfInBounds_ne (fun e => hi e.symm)]
    have hnod : ((leftOf es seen).toList.map (·.born)).Nodup := by
      unfold leftOf
      rw [Array.toList_filter]
      exact List.Nodup.sublist (List.Sublist.map _ List.filter_sublist) he.born
    have hfil : (leftOf es (seen.push e.born)).toList = (leftOf es seen).toList.filter fun x => x.born != e.born := by
      unfold leftOf
      rw [Array.toList_filter, Array.toList_filter, List.filter_filter]
      refine List.filter_congr fun x _ => ?_
      by_cases hx : x.born = e.born
      · simp [hx]
      · simp [hx]
    refine Or.inr ⟨e.key, e.val, (leftOf es (seen.push e.born)).toList.map kv, _, ?_, hrun, ⟨es, clock, since, seen.push e.born, clock, (hoth _ B (Ne.symm hne)).trans hb, he, hset _, ho, List.Perm.refl _, hs2, hs2⟩, ?_, by unfold setBlock; rw [hw1b]; simp, ?_⟩
    · rw [hfil]
      exact hl.symm.trans ((filter_born _ e hm hnod).map kv)
    · refine ⟨?_, ?_, ?_, by unfold setBlock; rw [hw1b]; simp, fun i _ hi => hoth _ i (fun e' => hi (by rw [e']))⟩ <;> (rcases hw1 with rfl | rfl <;> rfl)
    · intro w2 h1 h2
      rw [hset] at h2
      rw [hoth _ B (Ne.symm hne), hb] at h1
      exact run_entry_at w2 r B since seen es clock e h2 h1 hem he.born
end
end Go.Proofs.YtmjgcenhgpkhiaaDoor
namespace Go.Proofs.YtmjgcenhgpkhiaaDoor
open Go.RowKit
set_option linter.unusedVariables false
set_option linter.unusedSimpArgs false

section
variable {P : Program} {k e : TypeId} {ok : Value → Prop} (w : World) {ops : Array Oper} {rest : List Oper} {o : Oper} {a : Act} {Q : Exit → Act → World → Prop} {B : Nat} {M : List (Value × Value)}

/-- 'm[k]', 'v, is := m[k]' at a key that is there. -/
theorem wpList_look_in (hg : o.guard = none) (m x : Operand) (t : TypeId) (c : Bool) (hop : o.op = Op.lookup t m x c) (K : KeyLike P k ok) (ht : P.underlying t = some (.map k e))
    (hm : a.eval m = .map (some B)) (h : MapAt ok w B M) (key v : Value) (hx : a.eval x = key) (hok : ok key) (hin : (key, v) ∈ M)
    (hK : wpList P ops Q rest (a.put o.dst (if c then .tuple #[v, .bool true] else v)) w) : wpList P ops Q (o :: rest) a w := by
  refine wpList_plain hg fun K' hK' => ?_
  have hrun := h.look_in K ht hok hin c
  unfold Oper.wp
  simp [execOp, hop, hm, hx, hrun, Result.andThen]
  exact hK' _ _ hK

/-- .. at a key that is not there. -/
theorem wpList_look_out (hg : o.guard = none) (m x : Operand) (t : TypeId) (c : Bool) (hop : o.op = Op.lookup t m x c) (K : KeyLike P k ok) (ht : P.underlying t = some (.map k e)) {z : Value} (hz : ∀ w, (zeroValue e).run P w = .ok z w)
    (hm : a.eval m = .map (some B)) (h : MapAt ok w B M) (key : Value) (hx : a.eval x = key) (hok : ok key) (hout : ∀ v, (key, v) ∉ M)
    (hK : wpList P ops Q rest (a.put o.dst (if c then .tuple #[z, .bool false] else z)) w) : wpList P ops Q (o :: rest) a w := by
  refine wpList_plain hg fun K' hK' => ?_
  have hrun := h.look_out K ht hz hok hout c
  unfold Oper.wp
  simp [execOp, hop, hm, hx, hrun, Result.andThen]
  exact hK' _ _ hK

/-- 'm[k] = v'. -/
theorem wpList_store (hg : o.guard = none) (m x v : Operand) (t : TypeId) (hop : o.op = Op.mapUpdate t m x v) (K : KeyLike P k ok) (ht : P.underlying t = some (.map k e))
    (hm : a.eval m = .map (some B)) (h : MapAt ok w B M) (key val : Value) (hx : a.eval x = key) (hv : a.eval v = val) (hok : ok key)
    (hK : ∀ w', MapAt ok w' B ((key, val) :: lessKey key M) → w.grownBy w' (some B) → w'.heap.size = w.heap.size → wpList P ops Q rest (a.put o.dst undef) w') : wpList P ops Q (o :: rest) a w := by
  refine wpList_plain hg fun K' hK' => ?_
  obtain ⟨w', hrun, r1, r2, r3⟩ := h.store K ht hok val
  unfold Oper.wp
  simp [execOp, hop, hm, hx, hv, hrun, Result.andThen]
  exact hK' _ _ (hK w' r1 r2 r3)

/-- 'delete(m, k)'. -/
theorem wpList_del (hg : o.guard = none) (m x : Operand) (t : TypeId) (hop : o.op = Op.call { callee := Callee.builtin Builtin.delete, args := #[m, x], argTypes := #[t, k] }) (K : KeyLike P k ok) (ht : P.underlying t = some (.map k e))
    (hm : a.eval m = .map (some B)) (h : MapAt ok w B M) (key : Value) (hx : a.eval x = key) (hok : ok key)
    (hK : ∀ w', MapAt ok w' B (lessKey key M) → w.grownBy w' (some B) → w'.heap.size = w.heap.size → wpList P ops Q rest (a.put o.dst (.tuple #[])) w') : wpList P ops Q (o :: rest) a w := by
  refine wpList_plain hg fun K' hK' => ?_
  obtain ⟨w', hrun, r1, r2, r3⟩ := h.del K ht hok o.type
  unfold Oper.wp
  simp [execOp, hop, resolve, invoke, builtin, hm, hx, hrun, Result.andThen]
  exact hK' _ _ (hK w' r1 r2 r3)

theorem MapAt.len {t : TypeId} (ht : P.underlying t = some (.map k e)) (h : MapAt ok w B M) (ty : TypeId) : (Builtin.len_ #[t] ty #[.map (some B)]).run P w = .ok (.int .i64 M.length) w := by
  obtain ⟨es, clock, hb, hs⟩ := h.size_eq
  simp [Builtin.len_, run_underlying ht, MapKept.run_getObj_map hb, Result.andThen, hs, goInt]

/-- 'len(m)'. -/
theorem wpList_maplen (hg : o.guard = none) (m : Operand) (t : TypeId) (hop : o.op = Op.call { callee := Callee.builtin Builtin.len, args := #[m], argTypes := #[t] }) (ht : P.underlying t = some (.map k e))
    (hm : a.eval m = .map (some B)) (h : MapAt ok w B M) (hK : wpList P ops Q rest (a.put o.dst (.int .i64 M.length)) w) : wpList P ops Q (o :: rest) a w := by
  refine wpList_plain hg fun K' hK' => ?_
  unfold Oper.wp
  simp [execOp, hop, resolve, invoke, builtin, hm, MapAt.len w ht h o.type, Result.andThen]
  exact hK' _ _ hK

/-- 'range m'. -/
theorem wpList_maprange (hg : o.guard = none) (m : Operand) (t : TypeId) (hop : o.op = Op.range t m) (ht : P.underlying t = some (.map k e)) (hm : a.eval m = .map (some B)) (h : MapAt ok w B M)
    (hK : ∀ w', IterAt ok w' B w.heap.size M M → Below w.heap.size w w' → w'.heap.size = w.heap.size + 1 → wpList P ops Q rest (a.put o.dst (.pointer (some ⟨w.heap.size, 0, none⟩))) w') : wpList P ops Q (o :: rest) a w := by
  refine wpList_plain hg fun K' hK' => ?_
  obtain ⟨w', hrun, r1, r2, r3⟩ := h.range (P := P) ht
  unfold Oper.wp
  simp [execOp, hop, hm, hrun, Result.andThen]
  exact hK' _ _ (hK w' r1 r2 r3)

/-- A range's step. -/
theorem wpList_mapnext (hg : o.guard = none) (it : Operand) (hop : o.op = Op.next it false) (r : Nat) (left : List (Value × Value)) (hit : a.eval it = .pointer (some ⟨r, 0, none⟩)) (h : IterAt ok w B r M left)
    (hDone : left = [] → wpList P ops Q rest (a.put o.dst (.tuple #[.bool false])) w)
    (hMore : ∀ (x v : Value) (lf : List (Value × Value)) (w' : World), left.Perm ((x, v) :: lf) → IterAt ok w' B r M lf → w.grownBy w' (some r) → w'.heap.size = w.heap.size →
      (∀ w2, w2.heap[B]? = w'.heap[B]? → w2.heap[r]? = w'.heap[r]? → (Instr.entry (.pointer (some ⟨r, 0, none⟩))).run P w2 = .ok (.tuple #[x, v]) w2) → wpList P ops Q rest (a.put o.dst (.tuple #[.bool true, x, v])) w') :
    wpList P ops Q (o :: rest) a w := by
  refine wpList_plain hg fun K' hK' => ?_
  unfold Oper.wp
  rcases h.next (P := P) o.type with ⟨hl, hrun⟩ | ⟨x, v, lf, w', h1, hrun, h2, h3, h4, h5⟩
  · simp [execOp, hop, hit, hrun, Result.andThen]
    exact hK' _ _ (hDone hl)
  · simp [execOp, hop, hit, hrun, Result.andThen]
    exact hK' _ _ (hMore x v lf w' h1 h2 h3 h4 h5)
end
end Go.Proofs.YtmjgcenhgpkhiaaDoor
namespace Go.Proofs.YtmjgcenhgpkhiaaDoor
open Go.RowKit
set_option linter.unusedVariables false
set_option linter.unusedSimpArgs false

/-- All that was there is as it was, but some blocks. -/
structure Turn (bs : List Nat) (w w' : World) : Prop where
  os : w'.os = w.os
  tape : w'.tape = w.tape
  output : w'.output = w.output
  size : w.heap.size ≤ w'.heap.size
  block : ∀ k, k < w.heap.size → k ∉ bs → w'.heap[k]? = w.heap[k]?
theorem Turn.refl (bs : List Nat) (w : World) : Turn bs w w := ⟨rfl, rfl, rfl, Nat.le_refl _, fun _ _ _ => rfl⟩
theorem Turn.trans {bs : List Nat} {a b c : World} (h : Turn bs a b) (k : Turn bs b c) : Turn bs a c :=
  ⟨k.os.trans h.os, k.tape.trans h.tape, k.output.trans h.output, Nat.le_trans h.size k.size, fun i hi hn => (k.block i (by have := h.size; omega) hn).trans (h.block i hi hn)⟩
theorem Turn.of_grown {w w' : World} {b : Nat} {bs : List Nat} (h : w.grownBy w' (some b)) (hb : b ∈ bs) : Turn bs w w' :=
  ⟨h.os, h.tape, h.output, h.size, fun k hk hn => h.block k hk fun e => hn (by cases e; exact hb)⟩
theorem Turn.of_below {w w' : World} {bs : List Nat} (h : Below w.heap.size w w') : Turn bs w w' := ⟨h.os, h.tape, h.output, h.size, fun k hk _ => h.block k hk⟩
theorem Turn.mono {w w' : World} {bs cs : List Nat} (h : Turn bs w w') (hb : ∀ b ∈ bs, b ∈ cs) : Turn cs w w' := ⟨h.os, h.tape, h.output, h.size, fun k hk hn => h.block k hk fun e => hn (hb k e)⟩
theorem Turn.below {w w' : World} {bs : List Nat} {N : Nat} (h : Turn bs w w') (hN : N ≤ w.heap.size) (hb : ∀ b ∈ bs, N ≤ b) : Below N w w' :=
  ⟨h.os, h.tape, h.output, h.size, fun k hk => h.block k (by omega) fun e => by have := hb k e; omega⟩
theorem Turn.blk {w w' : World} {bs : List Nat} {B : Nat} {cs : Array Value} {T : TypeId} (h : Turn bs w w') (hB : Blk w B cs T) (hn : B ∉ bs) : Blk w' B cs T := (h.block B hB.lt hn).trans hB
theorem Turn.rows {w w' : World} {bs : List Nat} {a : Option Addr} {n size : Nat} {f : Nat → List Value} (h : Turn bs w w') (hR : RowsAt w a n size f) (hlt : ∀ x, a = some x → x.block < w.heap.size) (hn : ∀ x, a = some x → x.block ∉ bs) : RowsAt w' a n size f := fun hl => by
  obtain ⟨b, o, e, hc⟩ := hR hl
  exact ⟨b, o, e, fun i hi j v hv => (World.cell?_of_block (h.block b (hlt _ e) (hn _ e))).trans (hc i hi j v hv)⟩
theorem Turn.own {w w' : World} {bs : List Nat} {base size n : Nat} {e : TypeId} {v : Value} {cs : List Value} (h : Turn bs w w') (ho : w.ownsRow base e size v n cs) (hn : ∀ g, v.ownBlock = some g → g ∉ bs) : w'.ownsRow base e size v n cs := by
  refine ⟨ho.1, ?_⟩
  rcases ho.2 with h0 | ⟨g, cap, cur, rfl, hb, hg, hr⟩
  · exact Or.inl h0
  · exact Or.inr ⟨g, cap, cur, rfl, hb, (h.block g (lt_of_block hg) (hn g rfl)).trans hg, hr⟩
/-- What a value owns lies in a block of its element's type. -/
theorem own_cells {w : World} {base size n : Nat} {e : TypeId} {v : Value} {cs : List Value} (ho : w.ownsRow base e size v n cs) {g : Nat} (hg : v.ownBlock = some g) : base ≤ g ∧ g < w.heap.size ∧ ∃ cur, w.heap[g]? = some (.cells cur e (0, 0)) := by
  rcases ho.2 with ⟨rfl, _⟩ | ⟨g', cap, cur, rfl, hb, hh, _⟩
  · simp [Value.ownBlock] at hg
  · simp only [Value.ownBlock, Option.some.injEq] at hg
    subst hg
    exact ⟨hb, lt_of_block hh, cur, hh⟩
end Go.Proofs.YtmjgcenhgpkhiaaDoor
namespace Go.Proofs.YtmjgcenhgpkhiaaDoor
open Go.RowKit
set_option linter.unusedVariables false
set_option linter.unusedSimpArgs false

section
variable {α : Type} [Inhabited α] {P : Program} {w w' : World} {size : Nat} {enc : α → List Value}

/-- A slice whose records are known. -/
structure SlAt (w : World) (size : Nat) (enc : α → List Value) (a : Option Addr) (cap : Nat) (xs : List α) : Prop where
  recs : RecsAt w a size enc xs
  le : xs.length ≤ cap
  max : cap ≤ maxLen
  sh : (a = none ∧ xs = [] ∧ cap = 0) ∨ ∃ b o, a = some ⟨b, o, none⟩ ∧ b < w.heap.size
theorem SlAt.lt {a : Option Addr} {cap : Nat} {xs : List α} (h : SlAt w size enc a cap xs) : ∀ x, a = some x → x.block < w.heap.size := fun x e => by
  rcases h.sh with ⟨e1, _⟩ | ⟨b, o, e1, hb⟩
  · rw [e1] at e; cases e
  · rw [e1] at e; cases e; exact hb
theorem SlAt.turn {bs : List Nat} {a : Option Addr} {cap : Nat} {xs : List α} (h : SlAt w size enc a cap xs) (ht : Turn bs w w') (hb : ∀ x, a = some x → x.block ∉ bs) : SlAt w' size enc a cap xs :=
  ⟨ht.rows h.recs h.lt hb, h.le, h.max, h.sh.imp id fun ⟨b, o, e, hl⟩ => ⟨b, o, e, by have := ht.size; omega⟩⟩
theorem SlAt.after {a : Option Addr} {cap : Nat} {xs : List α} (h : SlAt w size enc a cap xs) (hb : Below w.heap.size w w') : SlAt w' size enc a cap xs := h.turn (bs := []) (Turn.of_below hb) (by simp)
theorem SlAt.nil (w : World) : SlAt w size enc none 0 ([] : List α) := ⟨RowsAt.nil _ _ _ _, Nat.le_refl _, Nat.zero_le _, .inl ⟨rfl, rfl, rfl⟩⟩
theorem RecsAt.takeR {b o : Nat} {l : List α} (h : RecsAt w (some ⟨b, o, none⟩) size enc l) (A : Nat) : RecsAt w (some ⟨b, o, none⟩) size enc (l.take A) := by
  intro h0
  rw [List.length_take] at h0
  obtain ⟨b', o', e, hc⟩ := h (by omega)
  refine ⟨b', o', e, fun i hi j v hv => hc i (by rw [List.length_take] at hi; omega) j v ?_⟩
  unfold recF at hv ⊢
  rw [List.length_take] at hi
  rw [List.getD_eq_getElem?_getD, List.getElem?_take_of_lt (by omega)] at hv
  rw [List.getD_eq_getElem?_getD]
  exact hv
theorem RecsAt.dropR {b o : Nat} {l : List α} (h : RecsAt w (some ⟨b, o, none⟩) size enc l) (A : Nat) : RecsAt w (some ⟨b, o + A * size, none⟩) size enc (l.drop A) := by
  intro h0
  rw [List.length_drop] at h0
  obtain ⟨b', o', e, hc⟩ := h (by omega)
  cases e
  refine ⟨b, o + A * size, rfl, fun i hi j v hv => ?_⟩
  rw [List.length_drop] at hi
  have := hc (A + i) (by omega) j v (by
    unfold recF at hv ⊢
    rw [List.getD_eq_getElem?_getD, List.getElem?_drop] at hv
    rw [List.getD_eq_getElem?_getD]
    exact hv)
  rw [Nat.add_mul] at this
  rw [show o + A * size + i * size = o + (A * size + i * size) by omega]
  exact this
/-- What one owns, as a slice. -/
theorem sl_own {base : Nat} {e : TypeId} {v : Value} {xs : List α} (hs : ∀ x, (enc x).length = size) (h : w.ownsRow base e size v xs.length (cellsL enc xs)) : ∃ a cap, v = .slice a xs.length cap ∧ SlAt w size enc a cap xs ∧ ∀ x, a = some x → base ≤ x.block ∧ x.block < w.heap.size := by
  obtain ⟨a, cap, rfl, h1, h2, h3, h4, h5⟩ := owned_recs hs h rfl
  refine ⟨a, cap, rfl, ⟨h5, h2, h3, ?_⟩, h4⟩
  cases a with
  | none => exact .inl ⟨rfl, List.length_eq_zero_iff.1 (h1 rfl).1, (h1 rfl).2⟩
  | some x =>
    right
    rcases h.2 with ⟨e0, _⟩ | ⟨g, cap', cur, e1, hb, hg, _⟩
    · simp at e0
    · simp only [Value.slice.injEq, Option.some.injEq, true_and] at e1
      exact ⟨g, 0, by rw [e1.1], (Array.getElem?_eq_some_iff.1 hg).1⟩
/-- append(s, x...) -/
theorem wpList_append_recs {ops : Array Oper} {rest : List Oper} {o : Oper} {a : Act} {Q : Exit → Act → World → Prop} (hgd : o.guard = none) (s x : Operand) (t : TypeId)
    (ho : o.op = .call { callee := .builtin .append, args := #[s, x], argTypes := #[t, t] })
    (base : Nat) (e : TypeId) (i : TypeInfo) (z : Value) (bytes : Nat) (ht : P.underlying t = some (.slice e)) (hi : P.info? e = some i) (hz : i.zero = some z)
    (hsize : i.size = size) (hby : i.bytes = bytes) (hzs : z.cells.size = size) (hsz : 0 < size) (hs0 : ∀ x, (enc x).length = size) (h1 : ∀ x, ∀ u ∈ enc x, u.oneCell' = true)
    (v : Value) (n : Nat) (xs : List α) (hs : a.eval s = v) (hn : n = xs.length) (hown : w.ownsRow base e size v n (cellsL enc xs))
    (c : Option Addr) (L cap : Nat) (ys : List α) (hx : a.eval x = .slice c L cap) (hR : RecsAt w c size enc ys) (hL : L = ys.length) (hc : c = none → L = 0 ∧ cap = 0)
    (h63 : n + L ≤ maxLen) (hbytes : (n + L) * bytes ≤ 140737488355328) (hbase : base ≤ w.heap.size)
    (h : ∀ v' w', w'.ownsRow base e size v' (n + L) (cellsL enc (xs ++ ys)) → Below base w w' → wpList P ops Q rest (a.put o.dst v') w') :
    wpList P ops Q (o :: rest) a w := by
  subst hL hn
  cases c with
  | none =>
    obtain ⟨q4, rfl⟩ := hc rfl
    obtain rfl : ys = [] := List.length_eq_zero_iff.1 q4
    refine wpList_append_own_none hgd s x t ho base e i size ht hi v xs.length (cellsL enc xs) hs hown hx (h v w ?_ (Below.refl _ _))
    rw [List.append_nil]
    exact hown
  | some y =>
    refine wpList_append_own w hgd s x t ho base e i z size bytes ht hi hz hsize hby hzs hsz v xs.length (cellsL enc xs) hs hown y ys.length cap (cellsL enc ys) hx (cellsL_len hs0 ys) (RecsAt.src hR hs0 rfl) (cellsL_one h1 ys) h63 hbytes hbase fun v' w' g1 g2 _ => h v' w' (by rw [cellsL_append]; exact g1) ?_
    exact (Below.refl base w).grown g2 hbase (fun q e => (own_cells hown e).1)
end

end Go.Proofs.YtmjgcenhgpkhiaaDoor
namespace Go.Proofs.YtmjgcenhgpkhiaaDoor
open Go.RowKit Go.Sort Go.Shelf
set_option linter.unusedVariables false
set_option linter.unusedSimpArgs false

instance : Inhabited En := ⟨⟨zero6, none, 0, []⟩⟩
/-- An entry, plainly. -/
structure EnP where
  s : Six
  ls : List Ln
def En.p (e : En) : EnP := ⟨e.s, e.ls⟩
/-- The entry that reverses one. -/
def revI (L : List EnP) (no : Int) : Option Nat := L.findIdx? fun e => decide (e.s.ref = no ∧ 0 ≤ no)
def mirB (a b : EnP) : Bool := decide (a.s.tag = b.s.tag) && decide (a.ls.map Ln.neg = b.ls)
/-- What is wrong with an entry that is to be put at the end. -/
def wrongE (L : List EnP) (x : EnP) : Int :=
  if checkE x.s x.ls ≠ 0 then checkE x.s x.ls else if x.s.ref = -1 then 0 else
  match L[x.s.ref.toNat]? with
  | none => 16
  | some old => if (revI L x.s.ref).isSome then 17 else if old.s.ref ≠ -1 then 24 else if mirB old x then 0 else 20
def stamp (per seq : Int) (x : EnP) : EnP := ⟨⟨x.s.con, x.s.day, x.s.cur, seq, per, x.s.ref⟩, x.ls⟩
def seqOf (L : List EnP) : Int := match L.getLast? with
  | none => 0
  | some e => e.s.seq
/-- Entries put one behind the other: what is wrong with one of them, and which ones there are then. -/
def postK (per seq : Int) : List EnP → List EnP → Int × List EnP
  | L, [] => (0, L)
  | L, x :: xs => if wrongE L x = 0 then postK per seq (L ++ [stamp per seq x]) xs else (wrongE L x, L)
/-- A call of Post: what it answers, and which entries there are then. -/
def postE (there locked : Bool) (per seq : Int) (L xs : List EnP) : Int :=
  if there = false then 10 else if locked = true then 19 else if seq < 0 ∨ seq < seqOf L then 24 else (postK per seq L xs).1
def postL (there locked : Bool) (per seq : Int) (L xs : List EnP) : List EnP :=
  if postE there locked per seq L xs = 0 then L ++ xs.map (stamp per seq) else L

theorem revI_some {L : List EnP} {no : Int} {i : Nat} (h : revI L no = some i) : ∃ e, L[i]? = some e ∧ e.s.ref = no ∧ 0 ≤ no := by
  unfold revI at h
  obtain ⟨hi, h1, _⟩ := List.findIdx?_eq_some_iff_getElem.1 h
  exact ⟨L[i], List.getElem?_eq_getElem hi, by simpa using h1⟩
theorem revI_none {L : List EnP} {no : Int} (h : revI L no = none) : ∀ e ∈ L, ¬ (e.s.ref = no ∧ 0 ≤ no) := fun e he => by
  unfold revI at h
  have := List.findIdx?_eq_none_iff.1 h e he
  simpa using this
theorem revI_snoc (L : List EnP) (x : EnP) (no : Int) : revI (L ++ [x]) no = match revI L no with
    | some i => some i
    | none => if x.s.ref = no ∧ 0 ≤ no then some L.length else none := by
  unfold revI
  rw [List.findIdx?_append]
  cases h : L.findIdx? fun e => decide (e.s.ref = no ∧ 0 ≤ no) with
  | some i => rfl
  | none =>
    simp only [List.findIdx?_cons, List.findIdx?_nil, Option.map_none]
    by_cases e : x.s.ref = no ∧ 0 ≤ no
    · simp [e]
    · rw [if_neg e]
      simp only [decide_eq_false e]
      rfl
theorem stamp_ref (per seq : Int) (x : EnP) : (stamp per seq x).s.ref = x.s.ref := rfl
theorem stamp_ls (per seq : Int) (x : EnP) : (stamp per seq x).ls = x.ls := rfl
theorem postK_at {per seq : Int} : ∀ (xs L : List EnP) (j : Nat), j ≤ xs.length → (∀ i, i < j → ∀ x, xs[i]? = some x → wrongE (L ++ (xs.take i).map (stamp per seq)) x = 0) → postK per seq L xs = postK per seq (L ++ (xs.take j).map (stamp per seq)) (xs.drop j)
  | xs, L, 0, _, _ => by simp
  | [], L, j + 1, h, _ => by simp at h
  | x :: xs, L, j + 1, h, hw => by
    have h0 := hw 0 (by omega) x rfl
    simp only [List.take_zero, List.map_nil, List.append_nil] at h0
    have ih := postK_at (per := per) (seq := seq) xs (L ++ [stamp per seq x]) j (by simpa using h) (fun i hi y hy => by
      have := hw (i + 1) (by omega) y (by simpa using hy)
      simpa using this)
    rw [postK, if_pos h0, ih]
    simp
theorem postK_ok {per seq : Int} {xs L : List EnP} (h : ∀ i, ∀ x, xs[i]? = some x → wrongE (L ++ (xs.take i).map (stamp per seq)) x = 0) : postK per seq L xs = (0, L ++ xs.map (stamp per seq)) := by
  rw [postK_at xs L xs.length (Nat.le_refl _) (fun i _ x hx => h i x hx)]
  simp [postK]
theorem postK_bad {per seq : Int} {xs L : List EnP} {j : Nat} {x : EnP} (hx : xs[j]? = some x) (h : ∀ i, i < j → ∀ x, xs[i]? = some x → wrongE (L ++ (xs.take i).map (stamp per seq)) x = 0) (hb : wrongE (L ++ (xs.take j).map (stamp per seq)) x ≠ 0) :
    (postK per seq L xs).1 = wrongE (L ++ (xs.take j).map (stamp per seq)) x := by
  obtain ⟨hj, he⟩ := List.getElem?_eq_some_iff.1 hx
  rw [postK_at xs L j (by omega) h, List.drop_eq_getElem_cons hj, he, postK, if_neg hb]
theorem postK_fst {per seq : Int} : ∀ (xs L : List EnP), (postK per seq L xs).1 = 0 → postK per seq L xs = (0, L ++ xs.map (stamp per seq)) ∧ ∀ i x, xs[i]? = some x → wrongE (L ++ (xs.take i).map (stamp per seq)) x = 0
  | [], L, _ => by simp [postK]
  | x :: xs, L, h => by
    rw [postK] at h ⊢
    by_cases h0 : wrongE L x = 0
    · rw [if_pos h0] at h ⊢
      obtain ⟨h1, h2⟩ := postK_fst xs _ h
      refine ⟨by rw [h1]; simp, fun i y hy => ?_⟩
      cases i with
      | zero =>
        simp only [List.getElem?_cons_zero, Option.some.injEq] at hy
        subst hy
        simpa using h0
      | succ i =>
        have := h2 i y (by simpa using hy)
        simpa using this
    · rw [if_neg h0] at h
      exact absurd h h0

theorem wrongE_check {L : List EnP} {x : EnP} (h : wrongE L x = 0) : checkE x.s x.ls = 0 := by
  unfold wrongE at h
  split at h
  · rename_i h1; exact absurd h h1
  · rename_i h1; exact Decidable.of_not_not h1
theorem wrongE_ref {L : List EnP} {x : EnP} (h : wrongE L x = 0) (hr : x.s.ref ≠ -1) : ∃ old, L[x.s.ref.toNat]? = some old ∧ revI L x.s.ref = none ∧ old.s.ref = -1 ∧ mirB old x = true := by
  have hc := wrongE_check h
  unfold wrongE at h
  rw [if_neg (by simpa using hc), if_neg hr] at h
  cases ho : L[x.s.ref.toNat]? with
  | none => rw [ho] at h; simp at h
  | some old =>
    rw [ho] at h
    dsimp only at h
    split at h
    · cases h
    · rename_i h1
      split at h
      · cases h
      · rename_i h2
        split at h
        · rename_i h3
          exact ⟨old, rfl, by simpa using h1, Decidable.of_not_not h2, h3⟩
        · cases h
theorem check_parts {s : Six} {ls : List Ln} (h : checkE s ls = 0) : rangesB s ls = true ∧ linesB s ls = true ∧ someB ls = true ∧ fitsB ls = true ∧ evenB ls = true := by
  unfold checkE at h
  split at h
  · rename_i h1
    split at h
    · rename_i h2
      split at h
      · rename_i h3
        split at h
        · rename_i h4
          split at h
          · rename_i h5; exact ⟨h1, h2, h3, h4, h5⟩
          · cases h
        · cases h
      · cases h
    · cases h
  · cases h
theorem check_nums {s : Six} {ls : List Ln} (h : checkE s ls = 0) : 0 ≤ s.seq ∧ 0 ≤ s.per ∧ -1 ≤ s.ref ∧ tagOk s.con s.day s.cur = true ∧ ls.length ≤ 8 := by
  obtain ⟨h1, h2, _⟩ := check_parts h
  unfold rangesB at h1
  unfold linesB at h2
  simp only [Bool.and_eq_true, decide_eq_true_eq] at h1 h2
  exact ⟨h1.1.1.2, h1.1.2, h1.2, h1.1.1.1.1, h2.1.2⟩
theorem check_stamp {per seq : Int} {x : EnP} (h : checkE x.s x.ls = 0) (hp : 0 ≤ per) (hs : 0 ≤ seq) : checkE (stamp per seq x).s (stamp per seq x).ls = 0 := by
  obtain ⟨h1, h2, h3, h4, h5⟩ := check_parts h
  have h1' : rangesB (stamp per seq x).s (stamp per seq x).ls = true := by
    unfold rangesB at h1 ⊢
    simp only [Bool.and_eq_true, decide_eq_true_eq] at h1 ⊢
    exact ⟨⟨⟨h1.1.1.1, hs⟩, hp⟩, h1.2⟩
  have h2' : linesB (stamp per seq x).s (stamp per seq x).ls = true := h2
  unfold checkE
  rw [if_pos h1', if_pos h2', if_pos (show someB (stamp per seq x).ls = true from h3), if_pos (show fitsB (stamp per seq x).ls = true from h4), if_pos (show evenB (stamp per seq x).ls = true from h5)]

/-- What holds of all ledgers. -/
structure WL (L : List EnP) : Prop where
  ck : ∀ e ∈ L, checkE e.s e.ls = 0
  ref : ∀ (k : Nat) (e : EnP), L[k]? = some e → e.s.ref ≠ -1 → ∃ old : EnP, L[e.s.ref.toNat]? = some old ∧ e.s.ref.toNat < k ∧ old.s.ref = -1 ∧ mirB old e = true
  one : ∀ (i j : Nat) (e f : EnP), L[i]? = some e → L[j]? = some f → e.s.ref = f.s.ref → e.s.ref ≠ -1 → i = j
  seq : L.Pairwise fun a b => a.s.seq ≤ b.s.seq
theorem WL.nil : WL [] := ⟨fun e he => by simp at he, fun k e h => by simp at h, fun i j e f h => by simp at h, List.Pairwise.nil⟩
theorem seqOf_snoc (L : List EnP) (x : EnP) : seqOf (L ++ [x]) = x.s.seq := by simp [seqOf]
theorem seqOf_le {L : List EnP} (h : L.Pairwise fun a b => a.s.seq ≤ b.s.seq) : ∀ e ∈ L, e.s.seq ≤ seqOf L := fun e he => by
  unfold seqOf
  cases hl : L.getLast? with
  | none => rw [List.getLast?_eq_none_iff] at hl; subst hl; simp at he
  | some z =>
    obtain ⟨A, rfl⟩ := List.getLast?_eq_some_iff.1 hl
    rcases List.mem_append.1 he with h1 | h1
    · exact (List.pairwise_append.1 h).2.2 e h1 z (by simp)
    · rw [List.mem_singleton.1 h1]; exact Int.le_refl _
theorem WL.nonneg {L : List EnP} (h : WL L) : ∀ e ∈ L, -1 ≤ e.s.ref := fun e he => (check_nums (h.ck e he)).2.2.1
theorem WL.refs {L : List EnP} (h : WL L) {k : Nat} {e : EnP} (he : L[k]? = some e) (hr : e.s.ref ≠ -1) : 0 ≤ e.s.ref ∧ e.s.ref < k := by
  obtain ⟨old, _, h2, _⟩ := h.ref k e he hr
  have := h.nonneg e (List.mem_of_getElem? he)
  omega
theorem WL.rev {L : List EnP} (h : WL L) {i : Nat} {e : EnP} (he : L[i]? = some e) (hr : e.s.ref ≠ -1) : revI L e.s.ref = some i := by
  cases hv : revI L e.s.ref with
  | none => exact absurd ⟨rfl, (h.refs he hr).1⟩ (revI_none hv e (List.mem_of_getElem? he))
  | some j =>
    obtain ⟨f, hf, e1, _⟩ := revI_some hv
    rw [h.one j i f e hf he e1 (by rw [e1]; exact hr)]
theorem WL.snoc {L : List EnP} (h : WL L) {x : EnP} {per seq : Int} (hw : wrongE L x = 0) (hp : 0 ≤ per) (hs : 0 ≤ seq) (hq : seqOf L ≤ seq) : WL (L ++ [stamp per seq x]) := by
  have hc := wrongE_check hw
  have hat : ∀ (k : Nat) (e : EnP), (L ++ [stamp per seq x])[k]? = some e → (L[k]? = some e ∧ k < L.length) ∨ (k = L.length ∧ e = stamp per seq x) := fun k e hk => by
    by_cases hlt : k < L.length
    · rw [List.getElem?_append_left hlt] at hk; exact .inl ⟨hk, hlt⟩
    · rw [List.getElem?_append_right (by omega)] at hk
      by_cases e0 : k = L.length
      · subst e0; simp at hk; exact .inr ⟨rfl, hk.symm⟩
      · rw [List.getElem?_eq_none (by simp; omega)] at hk; cases hk
  have hin : ∀ (k : Nat) (e : EnP), L[k]? = some e → (L ++ [stamp per seq x])[k]? = some e := fun k e hk => by
    rw [List.getElem?_append_left (List.getElem?_eq_some_iff.1 hk).1]; exact hk
  refine ⟨fun e he => ?_, fun k e hk hr => ?_, fun i j e f hi hj hef hr => ?_, ?_⟩
  · rcases List.mem_append.1 he with he | he
    · exact h.ck e he
    · rw [List.mem_singleton.1 he]; exact check_stamp hc hp hs
  · rcases hat k e hk with ⟨hk', hlt⟩ | ⟨rfl, rfl⟩
    · obtain ⟨old, h1, h2, h3, h4⟩ := h.ref k e hk' hr
      exact ⟨old, hin _ _ h1, h2, h3, h4⟩
    · obtain ⟨old, h1, _, h3, h4⟩ := wrongE_ref hw hr
      exact ⟨old, hin _ _ h1, (List.getElem?_eq_some_iff.1 h1).1, h3, h4⟩
  · rcases hat i e hi with ⟨hi', h1⟩ | ⟨rfl, rfl⟩
    · rcases hat j f hj with ⟨hj', h2⟩ | ⟨rfl, rfl⟩
      · exact h.one i j e f hi' hj' hef hr
      · obtain ⟨old, _, h5, _⟩ := wrongE_ref (x := x) hw (by rw [← stamp_ref per seq x, ← hef]; exact hr)
        have := h.refs hi' hr
        exact absurd ⟨hef, by rw [← stamp_ref per seq x, ← hef]; exact this.1⟩ (revI_none h5 e (List.mem_of_getElem? hi'))
    · rcases hat j f hj with ⟨hj', h2⟩ | ⟨rfl, rfl⟩
      · obtain ⟨old, _, h5, _⟩ := wrongE_ref (x := x) hw hr
        have := h.refs hj' (by rw [← hef]; exact hr)
        exact absurd ⟨hef.symm, by rw [← stamp_ref per seq x, hef]; exact this.1⟩ (revI_none h5 f (List.mem_of_getElem? hj'))
      · rfl
  · refine List.pairwise_append.2 ⟨h.seq, by simp, fun a ha b hb => ?_⟩
    rw [List.mem_singleton.1 hb]
    exact Int.le_trans (seqOf_le h.seq a ha) hq
theorem seqOf_pre {per seq : Int} {L xs : List EnP} (hq : seqOf L ≤ seq) : seqOf (L ++ xs.map (stamp per seq)) ≤ seq := by
  rcases List.eq_nil_or_concat xs with rfl | ⟨A, x, rfl⟩
  · simpa using hq
  · simp only [List.concat_eq_append, List.map_append, List.map_cons, List.map_nil]
    rw [← List.append_assoc, seqOf_snoc]
    exact Int.le_refl _
theorem WL.puts {L : List EnP} (h : WL L) {per seq : Int} (hp : 0 ≤ per) (hs : 0 ≤ seq) (hq : seqOf L ≤ seq) : ∀ (xs : List EnP), (∀ i x, xs[i]? = some x → wrongE (L ++ (xs.take i).map (stamp per seq)) x = 0) → WL (L ++ xs.map (stamp per seq)) := fun xs hw => by
  have key : ∀ j, j ≤ xs.length → WL (L ++ (xs.take j).map (stamp per seq)) := fun j => by
    induction j with
    | zero => intro _; simpa using h
    | succ j ih =>
      intro hj
      have := (ih (by omega)).snoc (hw j xs[j] (List.getElem?_eq_getElem (by omega))) hp hs (seqOf_pre hq)
      rw [List.take_succ_eq_append_getElem (by omega), List.map_append, ← List.append_assoc]
      exact this
  have := key xs.length (Nat.le_refl _)
  rwa [List.take_length] at this

/-- The map of the entries that reverse one. -/
def byM (L : List EnP) : List (Value × Value) := (L.zipIdx.filter fun p => decide (p.1.s.ref ≠ -1)).map fun p => (Value.int .i64 p.1.s.ref, Value.int .i64 (p.2 : Int))
theorem byM_snoc (L : List EnP) (x : EnP) : byM (L ++ [x]) = byM L ++ if x.s.ref = -1 then [] else [(Value.int .i64 x.s.ref, Value.int .i64 (L.length : Int))] := by
  unfold byM
  rw [List.zipIdx_append, List.filter_append, List.map_append]
  congr 1
  by_cases h : x.s.ref = -1 <;> simp [h]
theorem byM_mem {L : List EnP} {k v : Value} : (k, v) ∈ byM L ↔ ∃ (i : Nat) (e : EnP), L[i]? = some e ∧ e.s.ref ≠ -1 ∧ k = .int .i64 e.s.ref ∧ v = .int .i64 (i : Int) := by
  unfold byM
  rw [List.mem_map]
  constructor
  · rintro ⟨⟨e, i⟩, hp, h⟩
    obtain ⟨h1, h2⟩ := List.mem_filter.1 hp
    simp only [Prod.mk.injEq] at h
    exact ⟨i, e, by rw [← List.mk_mem_zipIdx_iff_getElem?]; exact h1, by simpa using h2, h.1.symm, h.2.symm⟩
  · rintro ⟨i, e, h1, h2, rfl, rfl⟩
    exact ⟨(e, i), List.mem_filter.2 ⟨by rw [List.mk_mem_zipIdx_iff_getElem?]; exact h1, by simpa using h2⟩, rfl⟩
theorem byM_cases {L : List EnP} (h : WL L) (no : Int) : (∃ i : Nat, revI L no = some i ∧ i < L.length ∧ (Value.int .i64 no, Value.int .i64 (i : Int)) ∈ byM L) ∨ (revI L no = none ∧ ∀ v, (Value.int .i64 no, v) ∉ byM L) := by
  cases hv : revI L no with
  | some i =>
    obtain ⟨e, h1, h2, h3⟩ := revI_some hv
    exact .inl ⟨i, rfl, (List.getElem?_eq_some_iff.1 h1).1, byM_mem.2 ⟨i, e, h1, by omega, by rw [h2], rfl⟩⟩
  | none =>
    refine .inr ⟨rfl, fun v hm => ?_⟩
    obtain ⟨i, e, h1, h2, h3, _⟩ := byM_mem.1 hm
    simp only [Value.int.injEq, true_and] at h3
    exact revI_none hv e (List.mem_of_getElem? h1) ⟨h3.symm, by rw [h3]; exact (h.refs h1 h2).1⟩

def OkN (v : Value) : Prop := ∃ n : Int, v = .int .i64 n ∧ (Lit.int .i64 n).wf = true
theorem keyN : KeyLike Tryd.prog 3 OkN := KeyLike.ints Tryd.underlying3

/-- The ledger in memory. -/
structure LgAt (w : World) (p bm : Nat) (a : Option Addr) (cap : Nat) (E : List En) : Prop where
  blk : Blk w p #[.slice a E.length cap, .map (some bm)] 87
  sl : SlAt w 7 En.cs a cap E
  ok : ∀ e ∈ E, EnOk w e
  map : MapAt OkN w bm (byM (E.map En.p))
theorem LgAt.after {w w' : World} {p bm : Nat} {a : Option Addr} {cap : Nat} {E : List En} (h : LgAt w p bm a cap E) (hb : Below w.heap.size w w') : LgAt w' p bm a cap E :=
  ⟨h.blk.after hb, h.sl.after hb, fun e he => (h.ok e he).after hb, h.map.after hb⟩

/-- A block that holds two cells, neither of which is a number: a ledger's own. -/
def LBox (w : World) (q : Nat) : Prop := ∃ (a : Option Addr) (n c m : Nat) (T : TypeId), w.heap[q]? = some (.cells #[.slice a n c, .map (some m)] T (0, 0))
theorem LgAt.box {w : World} {p bm : Nat} {a : Option Addr} {cap : Nat} {E : List En} (h : LgAt w p bm a cap E) : LBox w p := ⟨_, _, _, _, _, h.blk⟩
theorem LBox.no_int {w : World} {q i : Nat} {n : Int} (h : LBox w q) : w.cell? ⟨q, i, none⟩ ≠ some (.int .i64 n) := fun e => by
  obtain ⟨a, k, c, m, T, hb⟩ := h
  simp only [World.cell?, hb] at e
  rcases i with _ | _ | i
  · simp at e
  · simp at e
  · simp at e
theorem LnAt.turn {w w' : World} {bs : List Nat} {a : Option Addr} {ls : List Ln} (h : LnAt w a ls) (t : Turn bs w w') (hb : ∀ q ∈ bs, LBox w q) : LnAt w' a ls := fun hl => by
  obtain ⟨b, o, e, hc⟩ := h hl
  have h0 := (hc 0 hl).1
  have hlt : b < w.heap.size := by
    rcases Nat.lt_or_ge b w.heap.size with h | h
    · exact h
    · simp [World.cell?, Array.getElem?_eq_none h] at h0
  have hn : b ∉ bs := fun hm => (hb b hm).no_int h0
  have hk := t.block b hlt hn
  exact ⟨b, o, e, fun i hi => ⟨(World.cell?_of_block hk).trans (hc i hi).1, (World.cell?_of_block hk).trans (hc i hi).2.1, (World.cell?_of_block hk).trans (hc i hi).2.2⟩⟩
theorem EnOk.turn {w w' : World} {bs : List Nat} {e : En} (h : EnOk w e) (t : Turn bs w w') (hb : ∀ q ∈ bs, LBox w q) : EnOk w' e := ⟨h.ln.turn t hb, h.wf, h.few, h.nil⟩
theorem SlAt.turnE {w w' : World} {bs : List Nat} {a : Option Addr} {cap : Nat} {E : List En} (h : SlAt w 7 En.cs a cap E) (t : Turn bs w w') (hb : ∀ q ∈ bs, LBox w q) : SlAt w' 7 En.cs a cap E := by
  refine ⟨fun hl => ?_, h.le, h.max, h.sh.imp id fun ⟨b, o, e, hlt⟩ => ⟨b, o, e, by have := t.size; omega⟩⟩
  obtain ⟨b, o, e, hc⟩ := h.recs hl
  have h0 : w.cell? ⟨b, o + 0 * 7 + 0, none⟩ = some (.int .i64 (E.getD 0 default).s.con) := hc 0 hl 0 _ rfl
  have hlt : b < w.heap.size := by
    rcases Nat.lt_or_ge b w.heap.size with h | h
    · exact h
    · simp [World.cell?, Array.getElem?_eq_none h] at h0
  have hn : b ∉ bs := fun hm => (hb b hm).no_int h0
  exact ⟨b, o, e, fun i hi j v hv => (World.cell?_of_block (a := ⟨b, o + i * 7 + j, none⟩) (t.block b hlt hn)).trans (hc i hi j v hv)⟩
theorem MapAt.turnL {ok : Value → Prop} {w w' : World} {bs : List Nat} {B : Nat} {m : List (Value × Value)} (h : MapAt ok w B m) (t : Turn bs w w') (hb : ∀ q ∈ bs, LBox w q) : MapAt ok w' B m := by
  refine h.block (t.block B h.lt fun hm => ?_)
  obtain ⟨a, n, c, k, T, hq⟩ := hb B hm
  obtain ⟨es, cl, he, _⟩ := h
  rw [hq] at he
  cases he
/-- Another ledger than those that are turned stays what it is. -/
theorem LgAt.turn {w w' : World} {bs : List Nat} {p bm : Nat} {a : Option Addr} {cap : Nat} {E : List En} (h : LgAt w p bm a cap E) (t : Turn bs w w') (hb : ∀ q ∈ bs, LBox w q) (hp : p ∉ bs) : LgAt w' p bm a cap E :=
  ⟨t.blk h.blk hp, h.sl.turnE t hb, fun e he => (h.ok e he).turn t hb, h.map.turnL t hb⟩

end Go.Proofs.YtmjgcenhgpkhiaaDoor
