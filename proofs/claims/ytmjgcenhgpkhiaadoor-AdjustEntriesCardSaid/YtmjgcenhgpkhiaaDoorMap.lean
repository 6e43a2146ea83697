/- Maps in memory, as lists of entries in whatever order: look-up, store, delete, len, clone, range. Over any program, for keys that are integers, or structs of plain cells. -/
import Derived.Test.YtmjgcenhgpkhiaaDoorGen
import Derived.Maps.RangeWalk
import Derived.Maps.OwnSet
import Derived.Laws.StructEq
namespace Go.Proofs.YtmjgcenhgpkhiaaDoor
open Go.RowKit
open Go.ChangeMaps (setBlock heap_setBlock_same heap_setBlock_other modify_eq_set)
set_option linter.unusedVariables false
set_option linter.unusedSimpArgs false

section
variable {P : Program} {k : TypeId} {ok : Value → Prop}

/-- What is asked of a key's type: of keys of which 'ok' holds. -/
structure KeyLike (P : Program) (k : TypeId) (ok : Value → Prop) : Prop where
  check : ∀ (w : World) (em : Bool) {v : Value}, ok v → (Instr.checkKey em 10000 k v).run P w = .ok () w
  find : ∀ (w : World) {x : Value}, ok x → ∀ es : List MapEntry, (∀ e ∈ es, ok e.key) →
    ((Instr.findKey k x es).run P w = .ok none w ∧ ∀ e ∈ es, e.key ≠ x) ∨ ∃ j e, (Instr.findKey k x es).run P w = .ok (some (j, e.val)) w ∧ es[j]? = some e ∧ e.key = x
  stays : ∀ (w : World) {v : Value}, ok v → (Instr.keyThatStays v v).run P w = .ok v w

theorem KeyLike.of_keyed (K : Maps.Keyed P k) : KeyLike P k (fun v => ∃ l, keyOf P k v = some l) where
  check w em v h := by obtain ⟨l, h⟩ := h; exact K.check w em h
  find w x h es hes := by obtain ⟨l, h⟩ := h; exact K.find w h es hes
  stays w v h := by obtain ⟨l, h⟩ := h; exact K.stays w h

theorem KeyLike.ints (hk : P.underlying k = some (.int .i64)) : KeyLike P k (fun v => ∃ n : Int, v = .int .i64 n ∧ (Lit.int .i64 n).wf = true) where
  check w em v h := by
    obtain ⟨n, rfl, hn⟩ := h
    exact (Maps.int_keyed hk).check w em (Maps.keyOf_int_mk hk hn)
  find w x h es hes := by
    obtain ⟨n, rfl, hn⟩ := h
    exact (Maps.int_keyed hk).find w (Maps.keyOf_int_mk hk hn) es (fun e he => by
      obtain ⟨m, hm, hw⟩ := hes e he
      exact ⟨_, by rw [hm]; exact Maps.keyOf_int_mk hk hw⟩)
  stays w v h := by
    obtain ⟨n, rfl, hn⟩ := h
    exact (Maps.int_keyed hk).stays w (Maps.keyOf_int_mk hk hn)

theorem findAsking_run (he : ∀ w x y, ok x → ok y → ∃ b : Bool, (Op.equal k x y).run P w = .ok b w ∧ (b = true ↔ x = y)) (w : World) {x : Value} (hx : ok x) : ∀ (es : List MapEntry) (i : Nat), (∀ e ∈ es, ok e.key) →
    ((Instr.findAsking k x es i).run P w = .ok none w ∧ ∀ e ∈ es, e.key ≠ x) ∨ ∃ j e, (Instr.findAsking k x es i).run P w = .ok (some (i + j, e.val)) w ∧ es[j]? = some e ∧ e.key = x
  | [], i, _ => Or.inl ⟨rfl, fun e h => by cases h⟩
  | e :: es, i, h => by
    obtain ⟨b, hb, hbx⟩ := he w x e.key hx (h e (by simp))
    cases b with
    | true =>
      refine Or.inr ⟨0, e, ?_, rfl, (hbx.1 rfl).symm⟩
      simp [Instr.findAsking, Sem.run_bind, hb]
    | false =>
      have hne : e.key ≠ x := fun h' => by
        have := hbx.2 h'.symm
        cases this
      rcases findAsking_run he w hx es (i + 1) (fun y hy => h y (by simp [hy])) with ⟨h1, h2⟩ | ⟨j, e0, h1, h2, h3⟩
      · refine Or.inl ⟨?_, fun y hy => ?_⟩
        · simp [Instr.findAsking, Sem.run_bind, hb, h1]
        · rcases List.mem_cons.1 hy with rfl | hy
          · exact hne
          · exact h2 y hy
      · refine Or.inr ⟨j + 1, e0, ?_, by simpa using h2, h3⟩
        simp [Instr.findAsking, Sem.run_bind, hb, h1]
        omega

theorem KeyLike.struct {fs : Array Field} (hk : P.underlying k = some (.struct fs)) (hc : ∀ (w : World) (em : Bool) {v : Value}, ok v → (Instr.checkKey em 10000 k v).run P w = .ok () w)
    (he : ∀ w x y, ok x → ok y → ∃ b : Bool, (Op.equal k x y).run P w = .ok b w ∧ (b = true ↔ x = y)) (hs : ∀ v, ok v → Instr.sameBits 10000 v v = true) : KeyLike P k ok where
  check := hc
  find w x hx es hes := by
    cases es with
    | nil => exact Or.inl ⟨by simp [Instr.findKey, run_underlying hk, Instr.findNow, Result.andThen], fun e h => by cases h⟩
    | cons e es =>
      have h0 : Instr.findNow (.struct fs) x (e :: es) 0 = none := by simp [Instr.findNow, Instr.sameNow]
      have h1 : (Instr.findKey k x (e :: es)).run P w = (Instr.findAsking k x (e :: es) 0).run P w := by
        simp [Instr.findKey, run_underlying hk, h0, Result.andThen]
      rw [h1]
      rcases findAsking_run he w hx (e :: es) 0 hes with h | ⟨j, e0, h2, h3, h4⟩
      · exact Or.inl h
      · exact Or.inr ⟨j, e0, by simpa using h2, h3, h4⟩
  stays w v hv := by simp [Instr.keyThatStays, hs v hv]

/-- An entry, as a pair. -/
def kv (e : MapEntry) : Value × Value := (e.key, e.val)

/-- What a list of a map's entries is, beside its clock: 'm', in whatever order. -/
structure EntriesAre (ok : Value → Prop) (es : Array MapEntry) (clock : Nat) (m : List (Value × Value)) : Prop where
  perm : (es.toList.map kv).Perm m
  keys : (m.map (·.1)).Nodup
  oks : ∀ p ∈ m, ok p.1
  born : (es.toList.map (·.born)).Nodup
  old : ∀ e ∈ es.toList, e.born < clock

/-- Block B is a map that has the entries m. -/
def MapAt (ok : Value → Prop) (w : World) (B : Nat) (m : List (Value × Value)) : Prop :=
  ∃ es clock, w.heap[B]? = some (.map es clock) ∧ EntriesAre ok es clock m

variable {w w' : World} {B : Nat} {m : List (Value × Value)}

theorem MapAt.made (ok : Value → Prop) (w : World) : MapAt ok (w.alloc (.map #[] 0)) w.heap.size [] :=
  ⟨#[], 0, (MapKept.heap_alloc w _).1, ⟨List.Perm.refl _, List.nodup_nil, (fun _ h => by cases h), List.nodup_nil, fun _ h => by simp at h⟩⟩
theorem MapAt.lt (h : MapAt ok w B m) : B < w.heap.size := by
  obtain ⟨es, c, h, _⟩ := h
  exact (Array.getElem?_eq_some_iff.1 h).1
theorem MapAt.kept {row : Option Nat} (h : MapAt ok w B m) (hg : w.grownBy w' row) (hr : row ≠ some B) : MapAt ok w' B m := by
  have hl := h.lt
  obtain ⟨es, c, h, he⟩ := h
  exact ⟨es, c, (hg.block B hl (fun e => hr e.symm)).trans h, he⟩
theorem MapAt.after (h : MapAt ok w B m) (hb : Below w.heap.size w w') : MapAt ok w' B m := h.kept (below_row hb none) (by simp)
theorem MapAt.below {n : Nat} (h : MapAt ok w B m) (hb : Below n w w') (hB : B < n) : MapAt ok w' B m := by
  obtain ⟨es, c, h, he⟩ := h
  exact ⟨es, c, (hb.block B hB).trans h, he⟩
theorem MapAt.block (h : MapAt ok w B m) (hb : w'.heap[B]? = w.heap[B]?) : MapAt ok w' B m := by
  obtain ⟨es, c, h, he⟩ := h
  exact ⟨es, c, hb.trans h, he⟩
theorem MapAt.congr {m' : List (Value × Value)} (h : MapAt ok w B m) (hp : m.Perm m') : MapAt ok w B m' := by
  obtain ⟨es, c, h, he⟩ := h
  exact ⟨es, c, h, ⟨he.perm.trans hp, ((hp.map _).nodup_iff).1 he.keys, fun p hp' => he.oks p (hp.mem_iff.2 hp'), he.born, he.old⟩⟩
theorem MapAt.nodup (h : MapAt ok w B m) : (m.map (·.1)).Nodup := by
  obtain ⟨es, c, h, he⟩ := h
  exact he.keys
theorem MapAt.isOk (h : MapAt ok w B m) : ∀ p ∈ m, ok p.1 := by
  obtain ⟨es, c, h, he⟩ := h
  exact he.oks

theorem EntriesAre.okE {es : Array MapEntry} {clock : Nat} (h : EntriesAre ok es clock m) : ∀ e ∈ es.toList, ok e.key := fun e he =>
  h.oks (kv e) (h.perm.mem_iff.1 (List.mem_map.2 ⟨e, he, rfl⟩))

/-- Of one key there is one entry. -/
theorem one_entry {m : List (Value × Value)} (h : (m.map (·.1)).Nodup) {x u v : Value} (hu : (x, u) ∈ m) (hv : (x, v) ∈ m) : u = v := by
  induction m with
  | nil => cases hu
  | cons p m ih =>
    simp only [List.map_cons, List.nodup_cons, List.mem_map, not_exists, not_and] at h
    rcases List.mem_cons.1 hu with e | hu'
    · rcases List.mem_cons.1 hv with e' | hv'
      · rw [← e] at e'
        cases e'
        rfl
      · exact absurd (by rw [← e]) (h.1 _ hv')
    · rcases List.mem_cons.1 hv with e' | hv'
      · exact absurd (by rw [← e']) (h.1 _ hu')
      · exact ih h.2 hu' hv'

/-! ### look-up -/
theorem MapAt.look_in (K : KeyLike P k ok) {t e : TypeId} (ht : P.underlying t = some (.map k e)) (h : MapAt ok w B m) {x v : Value} (hx : ok x) (hm : (x, v) ∈ m) (c : Bool) :
    (Instr.lookup t (.map (some B)) x c).run P w = .ok (if c then .tuple #[v, .bool true] else v) w := by
  obtain ⟨es, clock, hb, he⟩ := h
  rcases K.find w hx es.toList he.okE with ⟨h1, h2⟩ | ⟨j, e0, h1, h2, h3⟩
  · obtain ⟨e0, h3, h4⟩ := List.mem_map.1 (he.perm.mem_iff.2 hm)
    exact absurd (congrArg Prod.fst h4) (h2 e0 h3)
  · have hv : e0.val = v := one_entry he.keys (he.perm.mem_iff.1 (List.mem_map.2 ⟨e0, List.mem_of_getElem? h2, by unfold kv; rw [h3]⟩)) hm
    simp [Instr.lookup, run_underlying ht, MapKept.run_getObj_map hb, K.check w _ hx, h1, Result.andThen, hv]

theorem MapAt.look_out (K : KeyLike P k ok) {t e : TypeId} (ht : P.underlying t = some (.map k e)) {z : Value} (hz : ∀ w, (zeroValue e).run P w = .ok z w) (h : MapAt ok w B m) {x : Value} (hx : ok x) (hm : ∀ v, (x, v) ∉ m) (c : Bool) :
    (Instr.lookup t (.map (some B)) x c).run P w = .ok (if c then .tuple #[z, .bool false] else z) w := by
  obtain ⟨es, clock, hb, he⟩ := h
  rcases K.find w hx es.toList he.okE with ⟨h1, h2⟩ | ⟨j, e0, h1, h2, h3⟩
  · simp [Instr.lookup, run_underlying ht, MapKept.run_getObj_map hb, K.check w _ hx, h1, hz w, Result.andThen]
  · exact absurd (he.perm.mem_iff.1 (List.mem_map.2 ⟨e0, List.mem_of_getElem? h2, by unfold kv; rw [h3]⟩)) (hm e0.val)

/-! ### store, delete -/
open Classical in
/-- A list of entries less that of a key. -/
noncomputable def lessKey (x : Value) (m : List (Value × Value)) : List (Value × Value) := m.filter fun p => decide (p.1 ≠ x)
theorem mem_lessKey {x : Value} {m : List (Value × Value)} {p : Value × Value} : p ∈ lessKey x m ↔ p ∈ m ∧ p.1 ≠ x := by
  unfold lessKey
  simp
theorem lessKey_none {x : Value} {m : List (Value × Value)} (h : ∀ v, (x, v) ∉ m) : lessKey x m = m := by
  unfold lessKey
  refine List.filter_eq_self.2 fun p hp => ?_
  simp only [ne_eq, decide_eq_true_eq]
  rintro rfl
  exact h p.2 hp
theorem lessKey_nodup {x : Value} {m : List (Value × Value)} (h : (m.map (·.1)).Nodup) : ((lessKey x m).map (·.1)).Nodup :=
  List.Nodup.sublist (List.Sublist.map _ (by unfold lessKey; exact List.filter_sublist)) h
theorem lessKey_perm {x : Value} {m m' : List (Value × Value)} (h : m.Perm m') : (lessKey x m).Perm (lessKey x m') := h.filter _
theorem lessKey_cons_perm {x v : Value} : ∀ {m : List (Value × Value)}, (m.map (·.1)).Nodup → (x, v) ∈ m → m.Perm ((x, v) :: lessKey x m)
  | [], _, h => by cases h
  | p :: m, hn, h => by
    simp only [List.map_cons, List.nodup_cons, List.mem_map, not_exists, not_and] at hn
    rcases List.mem_cons.1 h with rfl | h
    · have : lessKey x ((x, v) :: m) = m := by
        have h2 : lessKey x m = m := lessKey_none fun u hu => hn.1 _ hu rfl
        unfold lessKey at h2 ⊢
        rw [List.filter_cons, if_neg (by simp), h2]
      rw [this]
    · have hne : p.1 ≠ x := fun e => hn.1 _ h e.symm
      have : lessKey x (p :: m) = p :: lessKey x m := by
        unfold lessKey
        rw [List.filter_cons, if_pos (by simp [hne])]
      rw [this]
      exact ((lessKey_cons_perm hn.2 h).cons p).trans (List.Perm.swap _ _ _)

theorem set_perm_of {α : Type} : ∀ (l : List α) (j : Nat) (a b : α), l[j]? = some a → ∃ r, l.Perm (a :: r) ∧ (l.set j b).Perm (b :: r)
  | [], j, a, b, h => by simp at h
  | x :: l, 0, a, b, h => by
    simp only [List.getElem?_cons_zero, Option.some.injEq] at h
    subst h
    exact ⟨l, List.Perm.refl _, List.Perm.refl _⟩
  | x :: l, j + 1, a, b, h => by
    obtain ⟨r, h1, h2⟩ := set_perm_of l j a b (by simpa using h)
    exact ⟨x :: r, (h1.cons x).trans (List.Perm.swap _ _ _), ((h2.cons x).trans (List.Perm.swap _ _ _))⟩

/-- The store. -/
theorem MapAt.store (K : KeyLike P k ok) {t e : TypeId} (ht : P.underlying t = some (.map k e)) (h : MapAt ok w B m) {x : Value} (hx : ok x) (v : Value) :
    ∃ w', (Instr.mapUpdate t (.map (some B)) x v).run P w = .ok () w' ∧ MapAt ok w' B ((x, v) :: lessKey x m) ∧ w.grownBy w' (some B) ∧ w'.heap.size = w.heap.size := by
  obtain ⟨es, clock, hb, he⟩ := h
  have grow : ∀ o, w.grownBy (setBlock w B o) (some B) := fun o => ⟨rfl, rfl, rfl, by simp [setBlock], fun i _ hi => heap_setBlock_other hb _ (fun e => hi (by rw [e]))⟩
  rcases K.find w hx es.toList he.okE with ⟨h1, h2⟩ | ⟨j, e0, h1, h2, h3⟩
  · have hno : ∀ u, (x, u) ∉ m := fun u hu => by
      obtain ⟨e0, h3, h4⟩ := List.mem_map.1 (he.perm.mem_iff.2 hu)
      exact h2 e0 h3 (congrArg Prod.fst h4)
    refine ⟨setBlock w B (.map (es.push ⟨x, v, clock⟩) (clock + 1)), ?_, ⟨_, _, heap_setBlock_same hb _, ⟨?_, ?_, ?_, ?_, ?_⟩⟩, grow _, by simp [setBlock]⟩
    · simp [Instr.mapUpdate, run_underlying ht, MapKept.run_getObj_map hb, K.check w false hx, h1, MapKept.run_setObj_map _ hb, Result.andThen, setBlock]
    · rw [lessKey_none hno, Array.toList_push, List.map_append, List.map_singleton]
      exact (List.perm_append_singleton _ _).trans (he.perm.cons _)
    · rw [lessKey_none hno, List.map_cons, List.nodup_cons]
      refine ⟨fun h' => ?_, he.keys⟩
      obtain ⟨p, hp, e⟩ := List.mem_map.1 h'
      exact hno p.2 (by rw [show x = p.1 from e.symm]; exact hp)
    · rw [lessKey_none hno]
      intro p hp
      rcases List.mem_cons.1 hp with rfl | hp
      · exact hx
      · exact he.oks p hp
    · rw [Array.toList_push, List.map_append, List.map_singleton]
      refine List.nodup_append.2 ⟨he.born, by simp, fun a ha b hb' => ?_⟩
      obtain ⟨e0, h3, rfl⟩ := List.mem_map.1 ha
      have := he.old e0 h3
      simp at hb'
      omega
    · intro e' he'
      rw [Array.toList_push] at he'
      rcases List.mem_append.1 he' with h' | h'
      · have := he.old e' h'
        omega
      · simp at h'
        subst h'
        simp
  · have hj : es[j]? = some e0 := by simpa using h2
    obtain ⟨r, r1, r2⟩ := set_perm_of es.toList j e0 { e0 with key := x, val := v } h2
    have hlist : (es.modify j (fun e' => { e' with key := x, val := v })).toList = es.toList.set j { e0 with key := x, val := v } := by rw [Array.toList_modify, modify_eq_set _ _ _ _ h2]
    have hm0 : (kv e0 :: r.map kv).Perm m := ((r1.map kv).symm.trans he.perm)
    have hin : (x, e0.val) ∈ m := hm0.mem_iff.1 (by rw [← h3]; exact List.mem_cons_self)
    have hr : (r.map kv).Perm (lessKey x m) := by
      have a1 := (hm0.trans (lessKey_cons_perm he.keys hin))
      have a2 : kv e0 = (x, e0.val) := by unfold kv; rw [h3]
      rw [a2] at a1
      exact (List.perm_cons _).1 a1
    refine ⟨setBlock w B (.map (es.modify j (fun e' => { e' with key := x, val := v })) clock), ?_, ⟨_, _, heap_setBlock_same hb _, ⟨?_, ?_, ?_, ?_, ?_⟩⟩, grow _, by simp [setBlock]⟩
    · simp [Instr.mapUpdate, run_underlying ht, MapKept.run_getObj_map hb, K.check w false hx, h1, hj, h3, K.stays w hx, MapKept.run_setObj_map _ hb, Result.andThen, setBlock]
    · rw [hlist]
      exact (r2.map kv).trans (hr.cons _)
    · rw [List.map_cons, List.nodup_cons]
      refine ⟨fun h' => ?_, lessKey_nodup he.keys⟩
      obtain ⟨p, hp, e⟩ := List.mem_map.1 h'
      exact (mem_lessKey.1 hp).2 e
    · intro p hp
      rcases List.mem_cons.1 hp with rfl | hp
      · exact hx
      · exact he.oks p (mem_lessKey.1 hp).1
    · rw [hlist]
      have a1 := (r2.map (·.born)).nodup_iff
      have a2 := (r1.map (·.born)).nodup_iff
      rw [List.map_cons] at a1 a2
      exact a1.2 (a2.1 he.born)
    · intro e' he'
      rw [hlist] at he'
      rcases List.mem_cons.1 (r2.mem_iff.1 he') with rfl | h'
      · exact he.old e0 (List.mem_of_getElem? h2)
      · exact he.old e' (r1.mem_iff.2 (List.mem_cons_of_mem _ h'))

theorem eraseIdx_perm_of {α : Type} : ∀ (l : List α) (j : Nat) (a : α), l[j]? = some a → l.Perm (a :: l.eraseIdx j)
  | [], j, a, h => by simp at h
  | x :: l, 0, a, h => by
    simp only [List.getElem?_cons_zero, Option.some.injEq] at h
    subst h
    exact List.Perm.refl _
  | x :: l, j + 1, a, h => ((eraseIdx_perm_of l j a (by simpa using h)).cons x).trans (List.Perm.swap _ _ _)

/-- The delete. -/
theorem MapAt.del (K : KeyLike P k ok) {t e : TypeId} (ht : P.underlying t = some (.map k e)) (h : MapAt ok w B m) {x : Value} (hx : ok x) (ty : TypeId) :
    ∃ w', (Builtin.delete_ #[t, k] ty #[.map (some B), x]).run P w = .ok (.tuple #[]) w' ∧ MapAt ok w' B (lessKey x m) ∧ w.grownBy w' (some B) ∧ w'.heap.size = w.heap.size := by
  obtain ⟨es, clock, hb, he⟩ := h
  have grow : ∀ o, w.grownBy (setBlock w B o) (some B) := fun o => ⟨rfl, rfl, rfl, by simp [setBlock], fun i _ hi => heap_setBlock_other hb _ (fun e => hi (by rw [e]))⟩
  rcases K.find w hx es.toList he.okE with ⟨h1, h2⟩ | ⟨j, e0, h1, h2, h3⟩
  · have hno : ∀ u, (x, u) ∉ m := fun u hu => by
      obtain ⟨e0, h3, h4⟩ := List.mem_map.1 (he.perm.mem_iff.2 hu)
      exact h2 e0 h3 (congrArg Prod.fst h4)
    refine ⟨setBlock w B (.map es clock), ?_, ⟨es, clock, heap_setBlock_same hb _, by rw [lessKey_none hno]; exact he⟩, grow _, by simp [setBlock]⟩
    simp [Builtin.delete_, run_underlying ht, MapKept.run_getObj_map hb, K.check w _ hx, h1, MapKept.run_setObj_map _ hb, Result.andThen, setBlock]
  · have hjl : j < es.toList.length := (List.getElem?_eq_some_iff.1 h2).1
    have hjs : j < es.size := by simpa using hjl
    have hsub : (es.eraseIdxIfInBounds j).toList = es.toList.eraseIdx j := by
      unfold Array.eraseIdxIfInBounds
      rw [dif_pos hjs]
      simp
    have r1 := eraseIdx_perm_of es.toList j e0 h2
    have hm0 : (kv e0 :: (es.toList.eraseIdx j).map kv).Perm m := ((r1.map kv).symm.trans he.perm)
    have hin : (x, e0.val) ∈ m := hm0.mem_iff.1 (by rw [← h3]; exact List.mem_cons_self)
    have hr : ((es.toList.eraseIdx j).map kv).Perm (lessKey x m) := by
      have a1 := (hm0.trans (lessKey_cons_perm he.keys hin))
      have a2 : kv e0 = (x, e0.val) := by unfold kv; rw [h3]
      rw [a2] at a1
      exact (List.perm_cons _).1 a1
    refine ⟨setBlock w B (.map (es.eraseIdxIfInBounds j) clock), ?_, ⟨_, _, heap_setBlock_same hb _, ⟨?_, lessKey_nodup he.keys, fun p hp => he.oks p (mem_lessKey.1 hp).1, ?_, ?_⟩⟩, grow _, by simp [setBlock]⟩
    · simp [Builtin.delete_, run_underlying ht, MapKept.run_getObj_map hb, K.check w _ hx, h1, MapKept.run_setObj_map _ hb, Result.andThen, setBlock]
    · rw [hsub]
      exact hr
    · rw [hsub]
      have a2 := (r1.map (·.born)).nodup_iff
      rw [List.map_cons, List.nodup_cons] at a2
      exact (a2.1 he.born).2
    · intro e' he'
      rw [hsub] at he'
      exact he.old e' ((List.eraseIdx_sublist _ _).subset he')

/-- How many there are. -/
theorem MapAt.size_eq (h : MapAt ok w B m) : ∃ es clock, w.heap[B]? = some (.map es clock) ∧ es.size = m.length := by
  obtain ⟨es, clock, hb, he⟩ := h
  exact ⟨es, clock, hb, by have := he.perm.length_eq; simpa using this⟩

/-! ### range -/
/-- A range over the map in block B is under way, by the iterator in block r: 'left' is still to come. -/
def IterAt (ok : Value → Prop) (w : World) (B r : Nat) (m left : List (Value × Value)) : Prop :=
  ∃ es clock since seen c0, w.heap[B]? = some (.map es clock) ∧ EntriesAre ok es clock m ∧ w.heap[r]? = some (.mapIter (some B) since seen c0) ∧ (∀ x ∈ es.toList, x.born < since) ∧
    ((leftOf es seen).toList.map kv).Perm left ∧ since ≤ c0 ∧ since ≤ clock

variable {r : Nat} {left : List (Value × Value)}
theorem IterAt.map (h : IterAt ok w B r m left) : MapAt ok w B m := by
  obtain ⟨es, clock, since, seen, c0, hb, he, _⟩ := h
  exact ⟨es, clock, hb, he⟩
theorem IterAt.lt (h : IterAt ok w B r m left) : r < w.heap.size := by
  obtain ⟨es, clock, since, seen, c0, hb, he, hr, _⟩ := h
  exact (Array.getElem?_eq_some_iff.1 hr).1
theorem IterAt.ne (h : IterAt ok w B r m left) : r ≠ B := by
  obtain ⟨es, clock, since, seen, c0, hb, he, hr, _⟩ := h
  rintro rfl
  rw [hb] at hr
  cases hr
theorem IterAt.kept {row : Option Nat} (h : IterAt ok w B r m left) (hg : w.grownBy w' row) (hr1 : row ≠ some B) (hr2 : row ≠ some r) : IterAt ok w' B r m left := by
  have h1 := h.map.lt
  have h2 := h.lt
  obtain ⟨es, clock, since, seen, c0, hb, he, hr, rest⟩ := h
  exact ⟨es, clock, since, seen, c0, (hg.block B h1 (fun e => hr1 e.symm)).trans hb, he, (hg.block r h2 (fun e => hr2 e.symm)).trans hr, rest⟩
theorem IterAt.after (h : IterAt ok w B r m left) (hb : Below w.heap.size w w') : IterAt ok w' B r m left := h.kept (below_row hb none) (by simp) (by simp)
/-- What is left is of the map. -/
theorem IterAt.sub (h : IterAt ok w B r m left) : ∀ p ∈ left, p ∈ m := by
  obtain ⟨es, clock, since, seen, c0, hb, he, hr, ho, hl, _⟩ := h
  intro p hp
  obtain ⟨e, h1, rfl⟩ := List.mem_map.1 (hl.mem_iff.2 hp)
  refine he.perm.mem_iff.1 (List.mem_map.2 ⟨e, ?_, rfl⟩)
  unfold leftOf at h1
  simp at h1
  simpa using h1.1

theorem MapAt.range {t e : TypeId} (ht : P.underlying t = some (.map k e)) (h : MapAt ok w B m) :
    ∃ w', (Instr.range t (.map (some B))).run P w = .ok (.pointer (some ⟨w.heap.size, 0, none⟩)) w' ∧ IterAt ok w' B w.heap.size m m ∧ Below w.heap.size w w' ∧ w'.heap.size = w.heap.size + 1 := by
  have hlt := h.lt
  obtain ⟨es, clock, hb, he⟩ := h
  refine ⟨_, run_range_map w t k e B es clock ht hb, ⟨es, clock, clock, #[], clock, ((MapKept.heap_alloc w _).2 B hlt).trans hb, he, (MapKept.heap_alloc w _).1, he.old, ?_, Nat.le_refl _, Nat.le_refl _⟩, (Below.refl _ _).alloc (Nat.le_refl _) _, by simp⟩
  have : leftOf es #[] = es := by
    unfold leftOf
    simp
  rw [this]
  exact he.perm

theorem filter_born : ∀ (l : List MapEntry) (e : MapEntry), e ∈ l → (l.map (·.born)).Nodup → l.Perm (e :: l.filter fun x => x.born != e.born)
  | [], e, h, _ => by cases h
  | y :: l, e, h, hn => by
    simp only [List.map_cons, List.nodup_cons, List.mem_map, not_exists, not_and] at hn
    rcases List.mem_cons.1 h with rfl | h
    · have : (e :: l).filter (fun x => x.born != e.born) = l := by
        rw [List.filter_cons, if_neg (by simp)]
        refine List.filter_eq_self.2 fun x hx => ?_
        have := hn.1 x hx
        simpa using this
      rw [this]
    · have hne : y.born ≠ e.born := fun e' => hn.1 e h e'.symm
      rw [List.filter_cons, if_pos (by simpa using hne)]
      exact ((filter_born l e h hn.2).cons y).trans (List.Perm.swap _ _ _)

/-- The step. -/
theorem IterAt.next (h : IterAt ok w B r m left) (ty : TypeId) :
    (left = [] ∧ (Instr.next (.pointer (some ⟨r, 0, none⟩)) false ty).run P w = .ok (.tuple #[.bool false]) w) ∨
    ∃ x v rest w', left.Perm ((x, v) :: rest) ∧ (Instr.next (.pointer (some ⟨r, 0, none⟩)) false ty).run P w = .ok (.tuple #[.bool true, x, v]) w' ∧ IterAt ok w' B r m rest ∧ w.grownBy w' (some r) ∧ w'.heap.size = w.heap.size ∧
      (∀ w2, w2.heap[B]? = w'.heap[B]? → w2.heap[r]? = w'.heap[r]? → (Instr.entry (.pointer (some ⟨r, 0, none⟩))).run P w2 = .ok (.tuple #[x, v]) w2) := by
  have hne := h.ne
  have hrl := h.lt
  obtain ⟨es, clock, since, seen, c0, hb, he, hr, ho, hl, hs1, hs2⟩ := h
  rcases run_next_at (P := P) w ty r B since c0 seen es clock hr hb ho hs1 with ⟨h0, hrun⟩ | ⟨e, hm, w1, hw1, hrun⟩
  · have : leftOf es seen = #[] := Array.eq_empty_of_size_eq_zero h0
    rw [this] at hl
    exact Or.inl ⟨(List.nil_perm.1 hl), hrun⟩
  · have hem : e ∈ es.toList := by
      unfold leftOf at hm
      simp at hm
      simpa using hm.1
    have hw1b : w1.heap = w.heap := by rcases hw1 with rfl | rfl <;> rfl
    have hset : ∀ o : Obj, (setBlock w1 r o).heap[r]? = some o := fun o => by
      unfold setBlock
      rw [hw1b]
      simp [hrl]
    have hoth : ∀ (o : Obj) (i : Nat), i ≠ r → (setBlock w1 r o).heap[i]? = w.heap[i]? := fun o i hi => by
      unfold setBlock
      rw [hw1b]
      show (w.heap.setIfInBounds r o)[i]? = _
      rw [Array.getElem?_setIfInBounds_ne (fun e => hi e.symm)]
    have hnod : ((leftOf es seen).toList.map (·.born)).Nodup := by
      unfold leftOf
      rw [Array.toList_filter]
      exact List.Nodup.sublist (List.Sublist.map _ List.filter_sublist) he.born
    have hfil : (leftOf es (seen.push e.born)).toList = (leftOf es seen).toList.filter fun x => x.born != e.born := by
      unfold leftOf
      rw [Array.toList_filter, Array.toList_filter, List.filter_filter]
      refine List.filter_congr fun x _ => ?_
      by_cases hx : x.born = e.born
      · simp [hx]
      · simp [hx]
    refine Or.inr ⟨e.key, e.val, (leftOf es (seen.push e.born)).toList.map kv, _, ?_, hrun, ⟨es, clock, since, seen.push e.born, clock, (hoth _ B (Ne.symm hne)).trans hb, he, hset _, ho, List.Perm.refl _, hs2, hs2⟩, ?_, by unfold setBlock; rw [hw1b]; simp, ?_⟩
    · rw [hfil]
      exact hl.symm.trans ((filter_born _ e hm hnod).map kv)
    · refine ⟨?_, ?_, ?_, by unfold setBlock; rw [hw1b]; simp, fun i _ hi => hoth _ i (fun e' => hi (by rw [e']))⟩ <;> (rcases hw1 with rfl | rfl <;> rfl)
    · intro w2 h1 h2
      rw [hset] at h2
      rw [hoth _ B (Ne.symm hne), hb] at h1
      exact run_entry_at w2 r B since seen es clock e h2 h1 hem he.born
end
end Go.Proofs.YtmjgcenhgpkhiaaDoor
