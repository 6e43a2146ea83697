/- Maps in memory: 'm[k] = v' in two steps (the entry, then what is put in it), where the key is there. Over any program. -/
import Derived.Test.YtgcncnmkfpfccaaMapW
namespace Go.Proofs.Ytgcncnmkfpfccaa
open Go.RowKit
open Go.ChangeMaps (setBlock heap_setBlock_same heap_setBlock_other modify_eq_set)
set_option linter.unusedVariables false
set_option linter.unusedSimpArgs false
section
variable {P : Program} {k e : TypeId} {ok : Value → Prop} {w : World} {B : Nat} {M : List (Value × Value)}

theorem findIdx_bornE : ∀ {l : List MapEntry}, (l.map (·.born)).Nodup → ∀ {j : Nat} {e0 : MapEntry}, l[j]? = some e0 → l.findIdx? (fun e => ((e.born : Nat) : Int) == ((e0.born : Nat) : Int)) = some j := by
  intro l
  induction l with
  | nil => intro _ j e0 h; simp at h
  | cons a r ih =>
    intro hn j e0 h
    simp only [List.map_cons, List.nodup_cons] at hn
    cases j with
    | zero =>
      simp only [List.getElem?_cons_zero, Option.some.injEq] at h
      subst h
      simp [List.findIdx?_cons]
    | succ j =>
      simp only [List.getElem?_cons_succ] at h
      have hne : a.born ≠ e0.born := fun e1 => hn.1 (List.mem_map.2 ⟨e0, List.mem_of_getElem? h, e1.symm⟩)
      have hb : (((a.born : Nat) : Int) == ((e0.born : Nat) : Int)) = false := by
        simp only [beq_eq_false_iff_ne, ne_eq, Int.natCast_inj]
        exact hne
      rw [List.findIdx?_cons, hb]
      simp [ih hn.2 h]
theorem modify_same {es : Array MapEntry} {j : Nat} {e0 : MapEntry} {x : Value} (h : es[j]? = some e0) (hx : e0.key = x) : es.modify j (fun e => { e with key := x }) = es := by
  refine Array.toList_inj.1 ?_
  rw [Array.toList_modify, modify_eq_set _ _ _ _ (by simpa using h)]
  have : ({ e0 with key := x } : MapEntry) = e0 := by subst hx; rfl
  rw [this]
  obtain ⟨hj, he⟩ := Array.getElem?_eq_some_iff.1 h
  subst he
  exact List.set_getElem_self (by simpa using hj)
theorem setBlock_same {es : Array MapEntry} {clock : Nat} (h : w.heap[B]? = some (.map es clock)) : setBlock w B (.map es clock) = w := by
  unfold setBlock
  have : w.heap.setIfInBounds B (.map es clock) = w.heap := by
    refine Array.ext_getElem? fun i => ?_
    by_cases hi : B = i
    · subst hi
      rw [Array.getElem?_setIfInBounds_self_of_lt (Array.getElem?_eq_some_iff.1 h).1, h]
    · rw [Array.getElem?_setIfInBounds_ne hi]
  rw [this]

theorem MapAt.entry_in (K : KeyLike P k ok) {t : TypeId} (ht : P.underlying t = some (.map k e)) (h : MapAt ok w B M) {x v : Value} (hx : ok x) (hin : (x, v) ∈ M) :
    ∃ st : Int, (∀ w1 : World, w1.heap[B]? = w.heap[B]? → (Instr.mapEntry t (.map (some B)) x).run P w1 = .ok (.tuple #[v, .int .i64 st]) w1) ∧
      ∀ (w2 : World) (u : Value), w2.heap[B]? = w.heap[B]? → ∃ w3, (Instr.entryStore t (.map (some B)) (.int .i64 st) u).run P w2 = .ok () w3 ∧ MapAt ok w3 B ((x, u) :: lessKey x M) ∧ w2.grownBy w3 (some B) ∧ w3.heap.size = w2.heap.size := by
  obtain ⟨es, clock, hb, he⟩ := h
  rcases K.find w hx es.toList he.okE with ⟨h1, h2⟩ | ⟨j, e0, h1, h2, h3⟩
  · obtain ⟨e0, h3, h4⟩ := List.mem_map.1 (he.perm.mem_iff.2 hin)
    exact absurd (congrArg Prod.fst h4) (h2 e0 h3)
  · have hj : es[j]? = some e0 := by simpa using h2
    have hv : e0.val = v := one_entry he.keys (he.perm.mem_iff.1 (List.mem_map.2 ⟨e0, List.mem_of_getElem? h2, by unfold kv; rw [h3]⟩)) hin
    refine ⟨(e0.born : Int), fun w1 h1b => ?_, fun w2 u h2b => ?_⟩
    · have hb1 : w1.heap[B]? = some (.map es clock) := h1b.trans hb
      have h1' : (Instr.findKey k x es.toList).run P w1 = .ok (some (j, e0.val)) w1 := by
        rcases K.find w1 hx es.toList he.okE with ⟨_, g2⟩ | ⟨j', e1, g1, g2, g3⟩
        · exact absurd h3 (g2 e0 (List.mem_of_getElem? h2))
        · have : j' = j := by
            have n1 := (he.perm.map (·.1)).nodup_iff.2 he.keys
            rw [List.map_map] at n1
            have q1 : (es.toList.map ((·.1) ∘ kv))[j']? = some x := by rw [List.getElem?_map, g2]; simp [kv, g3]
            have q2 : (es.toList.map ((·.1) ∘ kv))[j]? = some x := by rw [List.getElem?_map, h2]; simp [kv, h3]
            obtain ⟨b1, c1⟩ := List.getElem?_eq_some_iff.1 q1
            obtain ⟨b2, c2⟩ := List.getElem?_eq_some_iff.1 q2
            exact (List.getElem_inj n1).1 (c1.trans c2.symm)
          subst this
          rw [h2] at g2
          cases g2
          exact g1
      have hs : (Instr.keyThatStays e0.key x).run P w1 = .ok x w1 := by rw [h3]; exact K.stays w1 hx
      have hset : ({ w1 with heap := w1.heap.setIfInBounds B (.map es clock) } : World) = w1 := setBlock_same hb1
      simp [Instr.mapEntry, run_underlying ht, MapKept.run_getObj_map hb1, K.check w1 false hx, h1', hj, hs, MapKept.run_setObj_map _ hb1, Result.andThen, modify_same hj h3, hset, hv, goInt]
    · have hb2 : w2.heap[B]? = some (.map es clock) := h2b.trans hb
      have hidx : es.findIdx? (fun e => ((e.born : Nat) : Int) == ((e0.born : Nat) : Int)) = some j := by
        have e1 : es.findIdx? (fun e => ((e.born : Nat) : Int) == ((e0.born : Nat) : Int)) = es.toList.findIdx? (fun e => ((e.born : Nat) : Int) == ((e0.born : Nat) : Int)) := by cases es; simp
        rw [e1]
        exact findIdx_bornE he.born h2
      obtain ⟨r, r1, r2⟩ := set_perm_of es.toList j e0 { e0 with val := u } h2
      have hlist : (es.modify j (fun e' => { e' with val := u })).toList = es.toList.set j { e0 with val := u } := by rw [Array.toList_modify, modify_eq_set _ _ _ _ h2]
      have hm0 : (kv e0 :: r.map kv).Perm M := ((r1.map kv).symm.trans he.perm)
      have hin' : (x, e0.val) ∈ M := hm0.mem_iff.1 (by rw [← h3]; exact List.mem_cons_self)
      have hr : (r.map kv).Perm (lessKey x M) := by
        have a1 := (hm0.trans (lessKey_cons_perm he.keys hin'))
        have a2 : kv e0 = (x, e0.val) := by unfold kv; rw [h3]
        rw [a2] at a1
        exact (List.perm_cons _).1 a1
      refine ⟨setBlock w2 B (.map (es.modify j (fun e' => { e' with val := u })) clock), ?_, ⟨_, _, heap_setBlock_same hb2 _, ⟨?_, ?_, ?_, ?_, ?_⟩⟩, ⟨rfl, rfl, rfl, by simp [setBlock], fun i _ hi => heap_setBlock_other hb2 _ (fun e => hi (by rw [e]))⟩, by simp [setBlock]⟩
      · simp [Instr.entryStore, MapKept.run_getObj_map hb2, asInt, asIntOf, hidx, MapKept.run_setObj_map _ hb2, Result.andThen, setBlock]
      · rw [hlist]
        have := (r2.map kv).trans (hr.cons _)
        rw [show kv { e0 with val := u } = (x, u) by unfold kv; rw [h3]] at this
        exact this
      · rw [List.map_cons, List.nodup_cons]
        refine ⟨fun h' => ?_, lessKey_nodup he.keys⟩
        obtain ⟨p, hp, e⟩ := List.mem_map.1 h'
        exact (mem_lessKey.1 hp).2 e
      · intro p hp
        rcases List.mem_cons.1 hp with rfl | hp
        · exact hx
        · exact he.oks p (mem_lessKey.1 hp).1
      · rw [hlist]
        have hbn := he.born
        have e1 : (es.toList.set j { e0 with val := u }).map (·.born) = es.toList.map (·.born) := by
          refine List.ext_getElem? fun i => ?_
          rw [List.getElem?_map, List.getElem?_map, List.getElem?_set]
          by_cases hij : j = i
          · subst hij
            rw [h2, if_pos rfl]
            have hlt := (List.getElem?_eq_some_iff.1 h2).1
            rw [if_pos hlt]
            rfl
          · rw [if_neg hij]
        rw [e1]
        exact hbn
      · intro e' he'
        rw [hlist] at he'
        rcases List.mem_or_eq_of_mem_set he' with h' | h'
        · exact he.old e' h'
        · subst h'
          exact he.old e0 (List.mem_of_getElem? h2)
end
end Go.Proofs.Ytgcncnmkfpfccaa
