/- Equality of arrays of integers, and of structs of integers, as equality of their lists. Over any program. -/
import Derived.Test.YtmjgcenhgpkhiaaDoorMgA
import Derived.ChangeKeysEq
import Derived.Laws.StructEq
import Derived.Test.YtmjgcenhgpkhiaaDoorMgI
import Derived.Test.YtmjgcenhgpkhiaaDoorMgD
import Derived.Test.YtmjgcenhgpkhiaaDoorMgE
import Derived.Test.YtmjgcenhgpkhiaaDoorRows
import Derived.Shelf.SlSortCmp.NoneTotal
import Derived.Deep.LoopGhost
import Derived.Deep.AppendLies
import Derived.StillTailTactics
import Derived.BigQuiet
import Derived.Deep.RegionHeld3
import Derived.Deep.DrawnRows
import Derived.Deep.QuietTactic
import Derived.BigGuardPart
namespace Go.Proofs.YtmjgcenhgpkhiaaDoor
open Go.RowKit
set_option linter.unusedVariables false
set_option linter.unusedSimpArgs false

section
variable {P : Program}

/-- Integers as cells. -/
def intC (xs : List Int) : Array Value := (xs.map (Value.int .i64)).toArray
theorem intC_get (xs : List Int) (j : Nat) (h : j < xs.length) : (intC xs)[j]? = some (.int .i64 (xs.getD j 0)) := by
  unfold intC
  simp [List.getElem?_eq_getElem h, List.getD_eq_getElem?_getD]

theorem eqItems_ints (w : World) (d : Nat) {e : TypeId} (he : P.underlying e = some (.int .i64)) (hp : P.plainKey e = true) (xs ys : List Int) (hl : xs.length = ys.length) :
    ∀ is : List Nat, (∀ j ∈ is, j < xs.length) → (Op.eqItems (d + 1) e 1 (intC xs) (intC ys) is).run P w = .ok (is.all fun j => xs.getD j 0 == ys.getD j 0) w
  | [], _ => by simp [Op.eqItems]
  | i :: is, h => by
    have hi := h i (by simp)
    have ih := eqItems_ints w d he hp xs ys hl is fun j hj => h j (by simp [hj])
    simp only [Op.eqItems, Sem.run_bind, Nat.mul_one]
    rw [run_part_plain w hp (intC_get xs i hi), Result.andThen_ok, run_part_plain w hp (intC_get ys i (by omega)), Result.andThen_ok]
    rw [run_equalIn_int w d e .i64 .i64 _ _ he, Result.andThen_ok, List.all_cons]
    cases (xs.getD i 0 == ys.getD i 0)
    · simp
    · simpa using ih

theorem all_range_eq (xs ys : List Int) (n : Nat) (h1 : xs.length = n) (h2 : ys.length = n) : ((List.range n).all fun j => xs.getD j 0 == ys.getD j 0) = decide (xs = ys) := by
  rw [Bool.eq_iff_iff, decide_eq_true_iff, List.all_eq_true]
  constructor
  · intro h
    refine List.ext_getElem (by omega) fun i a b => ?_
    have := h i (by simp; omega)
    simp [List.getD_eq_getElem?_getD, List.getElem?_eq_getElem a, List.getElem?_eq_getElem b] at this
    exact this
  · rintro rfl
    simp

theorem eq_array (w : World) {t e : TypeId} {n : Nat} {i : TypeInfo} (hu : P.underlying t = some (.array n e)) (hi : P.info? e = some i) (he : P.underlying e = some (.int .i64)) (hp : P.plainKey e = true) (hc : P.cellsOf e = 1)
    (xs ys : List Int) (h1 : xs.length = n) (h2 : ys.length = n) : (Op.equalIn 10000 t (.agg (intC xs)) (.agg (intC ys))).run P w = .ok (decide (xs = ys)) w := by
  rw [run_equalIn_array w 9999 (intC xs) (intC ys) hu hi, hc, eqItems_ints w 9998 he hp xs ys (by omega) _ (by intro j hj; simp at hj; omega), all_range_eq xs ys n h1 h2]

theorem eqFields_ints (w : World) (d : Nat) (xs ys : List Int) (hl : xs.length = ys.length) :
    ∀ (fs : List Field) (k : Nat), (∀ (j : Nat) (f : Field), fs[j]? = some f → f.name ≠ "_" ∧ f.offset = k + j ∧ k + j < xs.length ∧ P.underlying f.type = some (.int .i64) ∧ P.plainKey f.type = true) →
    (Op.eqFields (d + 1) (intC xs) (intC ys) fs).run P w = .ok ((List.range fs.length).all fun j => xs.getD (k + j) 0 == ys.getD (k + j) 0) w
  | [], k, _ => by simp [Op.eqFields]
  | f :: fs, k, h => by
    obtain ⟨hn, ho, hlt, hu, hp⟩ := h 0 f rfl
    have ih := eqFields_ints w d xs ys hl fs (k + 1) fun j g hg => by
      obtain ⟨a, b, c, e⟩ := h (j + 1) g (by simpa using hg)
      exact ⟨a, by omega, by omega, e⟩
    rw [Nat.add_zero] at ho hlt
    simp only [Op.eqFields, hn, ne_eq, not_false_eq_true, if_true, Sem.run_bind, ho]
    rw [run_part_plain w hp (intC_get xs k hlt), Result.andThen_ok, run_part_plain w hp (intC_get ys k (by omega)), Result.andThen_ok]
    rw [run_equalIn_int w d f.type .i64 .i64 _ _ hu, Result.andThen_ok, List.length_cons, List.range_succ_eq_map, List.all_cons, List.all_map]
    cases hb : (xs.getD k 0 == ys.getD k 0)
    · simp [hb]
    · simp only [Nat.add_zero, hb, Bool.true_and]
      have e : ((fun j => xs.getD (k + j) 0 == ys.getD (k + j) 0) ∘ Nat.succ) = fun j => xs.getD (k + 1 + j) 0 == ys.getD (k + 1 + j) 0 := by
        funext j
        show (xs.getD (k + (j + 1)) 0 == ys.getD (k + (j + 1)) 0) = _
        rw [show k + (j + 1) = k + 1 + j from by omega]
      rw [e]
      simpa using ih

/-- The fields of a struct of n integers. -/
def intFields (P : Program) (n : Nat) : Nat → List Field → Bool
  | k, [] => k == n
  | k, f :: fs => f.name != "_" && f.offset == k && (match P.underlying f.type with | some (.int .i64) => true | _ => false) && P.plainKey f.type && intFields P n (k + 1) fs
theorem intFields_ok {n : Nat} : ∀ (fs : List Field) (k : Nat), intFields P n k fs = true → k + fs.length = n ∧ ∀ (j : Nat) (f : Field), fs[j]? = some f → f.name ≠ "_" ∧ f.offset = k + j ∧ P.underlying f.type = some (.int .i64) ∧ P.plainKey f.type = true
  | [], k, h => by simp [intFields] at h; exact ⟨by simpa using h, fun j f hf => by simp at hf⟩
  | f :: fs, k, h => by
    simp only [intFields, Bool.and_eq_true, bne_iff_ne, beq_iff_eq] at h
    obtain ⟨⟨⟨⟨h1, h2⟩, h3⟩, h4⟩, h5⟩ := h
    obtain ⟨g1, g2⟩ := intFields_ok fs (k + 1) h5
    refine ⟨by simp; omega, fun j g hg => ?_⟩
    cases j with
    | zero =>
      simp at hg
      subst hg
      refine ⟨h1, by omega, ?_, h4⟩
      split at h3
      · assumption
      · cases h3
    | succ j =>
      obtain ⟨a, b, c⟩ := g2 j g (by simpa using hg)
      exact ⟨a, by omega, c⟩

theorem eq_struct (w : World) {t : TypeId} {fs : Array Field} {n : Nat} (hu : P.underlying t = some (.struct fs)) (hh : P.stoodInHeld t = false) (hf : intFields P n 0 fs.toList = true)
    (xs ys : List Int) (h1 : xs.length = n) (h2 : ys.length = n) : (Op.equalIn 10000 t (.agg (intC xs)) (.agg (intC ys))).run P w = .ok (decide (xs = ys)) w := by
  obtain ⟨g1, g2⟩ := intFields_ok _ _ hf
  have hfs : P.fieldsOf t = fs := by unfold Program.fieldsOf; rw [hu]
  rw [run_equalIn_agg w 9999 _ _ _ (by rw [hfs]; exact hu) hh, hfs]
  rw [eqFields_ints w 9998 xs ys (by omega) fs.toList 0 fun j f hj => by
    obtain ⟨a, b, c, e⟩ := g2 j f hj
    have := (List.getElem?_eq_some_iff.1 hj).1
    exact ⟨a, b, by omega, c, e⟩]
  have := all_range_eq xs ys n h1 h2
  simp only [Nat.zero_add] at g1 ⊢
  rw [g1, this]
end
end Go.Proofs.YtmjgcenhgpkhiaaDoor
namespace Go.Proofs.YtmjgcenhgpkhiaaDoor
open Go.RowKit Go.Sort Go.Shelf
set_option linter.unusedVariables false
set_option linter.unusedSimpArgs false

/-- What cmp.Compare answers. -/
def cmpI (x y : Int) : Int := if x < y then -1 else if y < x then 1 else 0
theorem nani_ok (x : Int) (w : World) : Calls Tryd.prog 72 #[.int .i64 x] w fun e w' => e = .returned (.bool false) ∧ w' = w := by
  go_enter Tryd.func72, Tryd.ntmps72
  go_wp2_with fail
  go_ret
  exact ⟨by simp, rfl⟩
set_option maxHeartbeats 1000000 in
theorem cmpi_ok (x y : Int) (w : World) : Calls Tryd.prog 65 #[.int .i64 x, .int .i64 y] w fun e w' => e = .returned (.int .i64 (cmpI x y)) ∧ w' = w := by
  obtain ⟨V, hV⟩ : ∃ V : Int, cmpI x y = V := ⟨_, rfl⟩
  rw [hV]
  unfold cmpI at hV
  rcases Int.lt_trichotomy x y with h | h | h
  · obtain rfl : -1 = V := by rw [← hV, if_pos h]
    clear hV
    go_enter Tryd.func65, Tryd.ntmps65
    go_wp2_with fail
    with_reducible refine (nani_ok _ _).mono ?_
    rintro e w1 ⟨rfl, rfl⟩
    go_wp2_with fail
    with_reducible refine (nani_ok _ _).mono ?_
    rintro e w1 ⟨rfl, rfl⟩
    go_wp2_with fail
    go_ret
    exact ⟨rfl, rfl⟩
  · subst h
    obtain rfl : 0 = V := by rw [← hV, if_neg (by omega), if_neg (by omega)]
    clear hV
    go_enter Tryd.func65, Tryd.ntmps65
    go_wp2_with fail
    with_reducible refine (nani_ok _ _).mono ?_
    rintro e w1 ⟨rfl, rfl⟩
    go_wp2_with fail
    with_reducible refine (nani_ok _ _).mono ?_
    rintro e w1 ⟨rfl, rfl⟩
    go_wp2_with fail
    go_ret
    exact ⟨rfl, rfl⟩
  · obtain rfl : 1 = V := by rw [← hV, if_neg (by omega), if_pos h]
    have h' : decide (x < y) = false := by simp; omega
    clear hV
    go_enter Tryd.func65, Tryd.ntmps65
    go_wp2_with fail
    with_reducible refine (nani_ok _ _).mono ?_
    rintro e w1 ⟨rfl, rfl⟩
    go_wp2_with fail
    with_reducible refine (nani_ok _ _).mono ?_
    rintro e w1 ⟨rfl, rfl⟩
    go_wp2_with fail
    go_ret
    exact ⟨rfl, rfl⟩

theorem perm_in {α : Type} [Inhabited α] {d d' : Array α} (h : PermIn 0 d.size d d') : d'.toList.Perm d.toList := by
  obtain ⟨h1, _, h3⟩ := h
  rw [Array.extract_size] at h3
  rw [← h1, Array.extract_size] at h3
  exact h3
theorem sorted_in {α : Type} [Inhabited α] {lt : α → α → Bool} {d : Array α} (h : SortedIn lt 0 d.size d) : d.toList.Pairwise fun a b => lt b a = false := by
  rw [List.pairwise_iff_getElem]
  intro i j hi hj hij
  have := h i j (Nat.zero_le _) hij (by simpa using hj)
  rw [getElem!_pos d i (by simpa using hi), getElem!_pos d j (by simpa using hj)] at this
  simpa using this
/-- What is left of a range, as facts. -/
theorem left_cons {α : Type} [DecidableEq α] {ent : α → Value × Value} {rest : List α} {x v : Value} {lf : List (Value × Value)} (h : (rest.map ent).Perm ((x, v) :: lf)) :
    ∃ z rest', rest.Perm (z :: rest') ∧ ent z = (x, v) ∧ lf.Perm (rest'.map ent) := by
  obtain ⟨z, h1, h2⟩ := List.mem_map.1 (h.mem_iff.2 (by simp : (x, v) ∈ (x, v) :: lf))
  have p := List.perm_cons_erase h1
  refine ⟨z, rest.erase z, p, h2, ?_⟩
  have q := (p.map ent).symm.trans h
  rw [List.map_cons, h2] at q
  exact ((List.perm_cons _).1 q).symm
theorem IterAt.perm {ok : Value → Prop} {w : World} {B r : Nat} {m left left' : List (Value × Value)} (h : IterAt ok w B r m left) (hp : left.Perm left') : IterAt ok w B r m left' := by
  obtain ⟨es, clock, since, seen, c0, h1, h2, h3, h4, h5, h6⟩ := h
  exact ⟨es, clock, since, seen, c0, h1, h2, h3, h4, h5.trans hp, h6⟩

theorem own_base {w : World} {base size n : Nat} {e : TypeId} {v : Value} {cs : List Value} (h : w.ownsRow base e size v n cs) {g : Nat} (hg : v.ownBlock = some g) : base ≤ g ∧ g < w.heap.size := by
  rcases h.2 with ⟨rfl, _⟩ | ⟨g', cap, cur, rfl, h1, h2, _⟩
  · simp [Value.ownBlock] at hg
  · simp only [Value.ownBlock, Option.some.injEq] at hg
    subst hg
    exact ⟨h1, lt_of_block h2⟩
theorem own_below {w w' : World} {base size n N : Nat} {e : TypeId} {v : Value} {cs : List Value} (h : w.ownsRow base e size v n cs) (hg : w.grownBy w' v.ownBlock) (hb : RowKit.Below N w w) (hN : N ≤ base) (hN' : N ≤ w.heap.size) : RowKit.Below N w w' :=
  hb.grown hg hN' fun k e => by have := (own_base h e).1; omega

theorem alloc_at {w : World} {o : Obj} {n : Nat} (h : w.heap.size = n) : (w.alloc o).heap[n]? = some o := by subst h; exact heap_alloc_new w o


set_option maxHeartbeats 1000000 in
theorem or_ok (a c : Int) (b cap : Nat) (w : World) (c0 : w.cell? ⟨b, 0, none⟩ = some (.int .i64 a)) (c1 : w.cell? ⟨b, 1, none⟩ = some (.int .i64 c)) :
    Calls Tryd.prog 64 #[.slice (some ⟨b, 0, none⟩) 2 cap] w fun e w' => e = .returned (.int .i64 (if a = 0 then c else a)) ∧ w' = w := by
  by_cases h : a = 0
  · rw [if_pos h]
    subst h
    by_cases h2 : c = 0
    · subst h2
      go_enter Tryd.func64, Tryd.ntmps64
      go_wp2_with fail
      refine wp_loop_rounds 3 ?_
      rw [rounds_succ]
      go_wp2_with fail
      rw [rounds_succ]
      go_wp2_with fail
      rw [rounds_succ]
      go_wp2_with fail
      go_ret
      exact ⟨rfl, rfl⟩
    · have h' : (c == 0) = false := by simpa using h2
      clear h2
      go_enter Tryd.func64, Tryd.ntmps64
      go_wp2_with fail
      refine wp_loop_rounds 2 ?_
      rw [rounds_succ]
      go_wp2_with fail
      rw [rounds_succ]
      go_wp2_with fail
      go_ret
      exact ⟨rfl, rfl⟩
  · rw [if_neg h]
    have h' : (a == 0) = false := by simpa using h
    clear h
    go_enter Tryd.func64, Tryd.ntmps64
    go_wp2_with fail
    refine wp_loop_rounds 1 ?_
    rw [rounds_succ]
    go_wp2_with fail
    go_ret
    exact ⟨rfl, rfl⟩

/-- How two places are to one another. -/
def cmpKD (a b : KD) : Int := if cmpI a.1 b.1 = 0 then cmpI a.2 b.2 else cmpI a.1 b.1
theorem cmpKD_lt (a b : KD) : decide (cmpKD a b < 0) = decide (ltK a b) := by
  rw [Bool.eq_iff_iff, decide_eq_true_iff, decide_eq_true_iff]
  unfold cmpKD cmpI ltK
  split <;> split at * <;> (try split at *) <;> (try split at *) <;> omega


theorem swoK {α : Type} (ky : α → KD) : SWO (ltOf fun x y => cmpKD (ky x) (ky y)) where
  irrefl x := by unfold ltOf; rw [cmpKD_lt]; exact decide_eq_false (ltK_irrefl _)
  trans x y z h1 h2 := by
    unfold ltOf at *
    rw [cmpKD_lt] at *
    exact decide_eq_true (ltK_trans (of_decide_eq_true h1) (of_decide_eq_true h2))
  ntrans x y z h1 h2 := by
    unfold ltOf at *
    rw [cmpKD_lt] at *
    refine decide_eq_false fun h => ?_
    have h1' := of_decide_eq_false h1
    have h2' := of_decide_eq_false h2
    unfold ltK at *
    omega

theorem below_grownN {w w' : World} (h : RowKit.Below w.heap.size w w') : w.grownBy w' none := ⟨h.os, h.tape, h.output, h.size, fun k hk _ => h.block k hk⟩

/-- A slice of records behind an iterator. -/
def SeqAt (w : World) (n₀ Bs size : Nat) (T : TypeId) {α : Type} [Inhabited α] (enc : α → List Value) (l : List α) : Prop :=
  ∃ a cap, Blk w Bs #[.slice a l.length cap] T ∧ RecsAt w a size enc l ∧ Bs < n₀ ∧ (∀ x, a = some x → x.block < n₀)
theorem SeqAt.below {w w' : World} {n₀ Bs size : Nat} {T : TypeId} {α : Type} [Inhabited α] {enc : α → List Value} {l : List α} (h : SeqAt w n₀ Bs size T enc l) (hb : RowKit.Below n₀ w w') : SeqAt w' n₀ Bs size T enc l := by
  obtain ⟨a, cap, h1, h2, h3, h4⟩ := h
  exact ⟨a, cap, h1.below hb h3, h2.below hb h4, h3, h4⟩
theorem SeqAt.mono {w : World} {n₀ n₁ Bs size : Nat} {T : TypeId} {α : Type} [Inhabited α] {enc : α → List Value} {l : List α} (h : SeqAt w n₀ Bs size T enc l) (hn : n₀ ≤ n₁) : SeqAt w n₁ Bs size T enc l := by
  obtain ⟨a, cap, h1, h2, h3, h4⟩ := h
  exact ⟨a, cap, h1, h2, by omega, fun x hx => by have := h4 x hx; omega⟩

end Go.Proofs.YtmjgcenhgpkhiaaDoor
namespace Go.Proofs.YtmjgcenhgpkhiaaDoor
set_option linter.unusedVariables false
set_option linter.unusedSimpArgs false

theorem rev_ind {α : Type} {motive : List α → Prop} (nil : motive []) (snoc : ∀ (l : List α) (x : α), motive l → motive (l ++ [x])) (l : List α) : motive l := by
  have h : ∀ k : List α, motive k.reverse := fun k => by
    induction k with
    | nil => exact nil
    | cons x k ih => rw [List.reverse_cons]; exact snoc _ x ih
  have := h l.reverse
  rwa [List.reverse_reverse] at this
theorem AllC.perm {l l' : List Lv} {w : List Fl} {c : Cg} (p : l.Perm l') : AllC l w c ↔ AllC l' w c := by
  unfold AllC
  constructor
  · rintro (⟨x, hx, e⟩ | ⟨y, hy, h, e⟩)
    · exact .inl ⟨x, p.mem_iff.1 hx, e⟩
    · exact .inr ⟨y, hy, fun x hx => h x (p.mem_iff.2 hx), e⟩
  · rintro (⟨x, hx, e⟩ | ⟨y, hy, h, e⟩)
    · exact .inl ⟨x, p.mem_iff.2 hx, e⟩
    · exact .inr ⟨y, hy, fun x hx => h x (p.mem_iff.1 hx), e⟩
theorem IsPlan.perm {l l' : List Lv} {w : List Fl} {q : List Cg} (h : IsPlan l w q) (p : l.Perm l') : IsPlan l' w q := ⟨h.ra, fun c => (h.mem c).trans (by unfold InPlan; rw [AllC.perm p])⟩

/-- Flows up to a day come first. -/
theorem take_days {w : List Fl} (hw : Rising Fl.ky w) (day : Int) (n : Nat) (hn : n ≤ w.length) (h1 : ∀ i, i < n → ∀ x, w[i]? = some x → x.d ≤ day) (h2 : ∀ x, w[n]? = some x → day < x.d) : (∀ x ∈ w.take n, x.d ≤ day) ∧ (∀ x ∈ w.drop n, day < x.d) := by
  refine ⟨fun x hx => ?_, fun x hx => ?_⟩
  · obtain ⟨i, hi, e⟩ := List.getElem_of_mem hx
    rw [List.length_take] at hi
    refine h1 i (by omega) x ?_
    rw [List.getElem_take] at e
    rw [List.getElem?_eq_getElem (by omega), e]
  · obtain ⟨i, hi, e⟩ := List.getElem_of_mem hx
    rw [List.length_drop] at hi
    rw [List.getElem_drop] at e
    have h0 := h2 w[n] (List.getElem?_eq_getElem (by omega))
    rcases Nat.eq_zero_or_pos i with rfl | hp
    · subst e; simpa using h0
    · have := List.pairwise_iff_getElem.1 hw n (n + i) (by omega) (by omega) (by omega)
      rw [e] at this
      unfold ltK Fl.ky at this
      simp only at this
      omega
theorem plan_parts {l : List Lv} {w : List Fl} {day : Int} {n : Nat} (hw : Rising Fl.ky w) (h1 : ∀ x ∈ w.take n, x.d ≤ day) (h2 : ∀ x ∈ w.drop n, day < x.d) {p q : List Cg}
    (hp : IsPlan (l.filter fun x => decide (x.d ≤ day)) (w.take n) p) (hq : IsPlan (l.filter fun x => !decide (x.d ≤ day)) (w.drop n) q) : IsPlan l w (p ++ q) := by
  have hwn : w = w.take n ++ w.drop n := (List.take_append_drop n w).symm
  have hr : Rising Fl.ky (w.take n ++ w.drop n) := by rw [← hwn]; exact hw
  have hr1 := (List.pairwise_append.1 hr).1
  have hr2 := (List.pairwise_append.1 hr).2.1
  have at1 : ∀ k : KD, k.1 ≤ day → wantAt w k = wantAt (w.take n) k := fun k hk => by
    have hno : (w.drop n).find? (fun x => decide (x.ky = k)) = none := List.find?_eq_none.2 fun y hy => by
      have hy2 := h2 y hy
      rw [decide_eq_true_eq]
      rintro rfl
      have hk' : y.d ≤ day := hk
      omega
    conv => lhs; rw [hwn]
    unfold wantAt
    rw [List.find?_append, hno, Option.or_none]
  have at2 : ∀ k : KD, day < k.1 → wantAt w k = wantAt (w.drop n) k := fun k hk => by
    have hno : (w.take n).find? (fun x => decide (x.ky = k)) = none := List.find?_eq_none.2 fun y hy => by
      have hy2 := h1 y hy
      rw [decide_eq_true_eq]
      rintro rfl
      have hk' : day < y.d := hk
      omega
    conv => lhs; rw [hwn]
    unfold wantAt
    rw [List.find?_append, hno, Option.none_or]
  have hd1 : ∀ c, c ∈ p → c.d ≤ day := fun c hc => by
    rcases ((hp.mem c).1 hc).1 with ⟨x, hx, rfl⟩ | ⟨y, hy, _, rfl⟩
    · have := (List.mem_filter.1 hx).2
      simpa using this
    · exact h1 y hy
  have hd2 : ∀ c, c ∈ q → day < c.d := fun c hc => by
    rcases ((hq.mem c).1 hc).1 with ⟨x, hx, rfl⟩ | ⟨y, hy, _, rfl⟩
    · have := (List.mem_filter.1 hx).2
      simpa using this
    · exact h2 y hy
  refine ⟨List.pairwise_append.2 ⟨hp.ra, hq.ra, fun a ha b hb => ?_⟩, fun c => ?_⟩
  · have := hd1 a ha
    have := hd2 b hb
    exact .inl (by simp only [Cg.ky]; omega)
  · rw [List.mem_append, hp.mem, hq.mem]
    unfold InPlan
    rw [← or_and_right]
    refine and_congr_left fun _ => ?_
    unfold AllC
    constructor
    · rintro ((⟨x, hx, rfl⟩ | ⟨y, hy, h, rfl⟩) | (⟨x, hx, rfl⟩ | ⟨y, hy, h, rfl⟩))
      · obtain ⟨hm, hd⟩ := List.mem_filter.1 hx
        exact .inl ⟨x, hm, by rw [at1 x.ky (show x.d ≤ day by simpa using hd)]⟩
      · refine .inr ⟨y, List.mem_of_mem_take hy, fun x hx e => ?_, rfl⟩
        refine h x (List.mem_filter.2 ⟨hx, ?_⟩) e
        have := h1 y hy
        simp only [Lv.ky, Fl.ky, Prod.mk.injEq] at e
        simp only [decide_eq_true_eq]
        omega
      · obtain ⟨hm, hd⟩ := List.mem_filter.1 hx
        exact .inl ⟨x, hm, by rw [at2 x.ky (show day < x.d by simpa using hd)]⟩
      · refine .inr ⟨y, List.mem_of_mem_drop hy, fun x hx e => ?_, rfl⟩
        refine h x (List.mem_filter.2 ⟨hx, ?_⟩) e
        have := h2 y hy
        simp only [Lv.ky, Fl.ky, Prod.mk.injEq] at e
        simp only [Bool.not_eq_true', decide_eq_false_iff_not]
        omega
    · rintro (⟨x, hx, rfl⟩ | ⟨y, hy, h, rfl⟩)
      · by_cases hd : x.d ≤ day
        · exact .inl (.inl ⟨x, List.mem_filter.2 ⟨hx, by simpa using hd⟩, by rw [at1 x.ky hd]⟩)
        · exact .inr (.inl ⟨x, List.mem_filter.2 ⟨hx, by simpa using hd⟩, by rw [at2 x.ky (show day < x.d by omega)]⟩)
      · rw [hwn] at hy
        rcases List.mem_append.1 hy with hy | hy
        · exact .inl (.inr ⟨y, hy, fun x hx => h x (List.mem_filter.1 hx).1, rfl⟩)
        · exact .inr (.inr ⟨y, hy, fun x hx => h x (List.mem_filter.1 hx).1, rfl⟩)
theorem ckE_part {l : List Lv} (h : ckE l = 0) (p : Lv → Bool) : ckE (l.filter p) = 0 := by
  obtain ⟨h1, h2, h3, h4⟩ := ckE_ok h
  exact ckE_of (fun x hx => h1 x (List.mem_filter.1 hx).1) (fun x hx => h2 x (List.mem_filter.1 hx).1) (h3.sublist (List.filter_sublist.map _)) (h4.sublist (List.filter_sublist.map _))
theorem ordB_take {w : List Fl} (h : ordB w = true) (n : Nat) : ordB (w.take n) = true := by
  obtain ⟨h1, h2⟩ := ordB_ok h
  exact ordB_of (fun x hx => h1 x (List.mem_of_mem_take hx)) (List.Pairwise.sublist (List.take_sublist _ _) h2)
theorem ordB_drop {w : List Fl} (h : ordB w = true) (n : Nat) : ordB (w.drop n) = true := by
  obtain ⟨h1, h2⟩ := ordB_ok h
  exact ordB_of (fun x hx => h1 x (List.mem_of_mem_drop hx)) (List.Pairwise.sublist (List.drop_sublist _ _) h2)

/-- Putting in at the first place that is not ahead: what 'putK' does, where there is none of the key. -/
theorem putK_first {α : Type} {ky : α → KD} : ∀ {S : List α} {x : α} (j : Nat), j ≤ S.length → (∀ i, i < j → ∀ z, S[i]? = some z → ltK (ky z) (ky x)) → (∀ z, S[j]? = some z → ¬ ltK (ky z) (ky x)) → (∀ z ∈ S, ky z ≠ ky x) → putK ky S x = S.take j ++ x :: S.drop j
  | [], x, j, hj, _, _, _ => by
    obtain rfl : j = 0 := by simpa using hj
    rfl
  | y :: S, x, 0, _, _, h0, hne => by
    have hlt := ltK_total (h0 y rfl) (hne y (by simp))
    show putK ky (y :: S) x = x :: y :: S
    unfold putK
    rw [if_pos hlt]
  | y :: S, x, j + 1, hj, hlo, h0, hne => by
    have hy := hlo 0 (by omega) y rfl
    have h1 : ¬ ltK (ky x) (ky y) := fun h => ltK_irrefl _ (ltK_trans hy h)
    have ih := putK_first (S := S) (x := x) j (by simpa using hj) (fun i hi z hz => hlo (i + 1) (by omega) z (by simpa using hz)) (fun z hz => h0 z (by simpa using hz)) (fun z hz => hne z (by simp [hz]))
    show putK ky (y :: S) x = y :: (S.take j ++ x :: S.drop j)
    unfold putK
    rw [if_neg h1, if_neg (hne y (by simp)), ih]

/-- The document's plan: of the first j live amounts. -/
def rpA (w : List Fl) (l : List Lv) : List Cg := l.foldl (fun acc x => if wantAt w x.ky ≠ x.a then putK Cg.ky acc ⟨x.no, x.d, x.c, x.a, wantAt w x.ky⟩ else acc) []
def rpB (l : List Lv) (A : List Cg) (w : List Fl) : List Cg := w.foldl (fun acc y => if ∃ x ∈ l, y.ky = x.ky then acc else putK Cg.ky acc ⟨-1, y.d, y.c, 0, y.a⟩) A
theorem rpA_snoc (w : List Fl) (l : List Lv) (x : Lv) : rpA w (l ++ [x]) = if wantAt w x.ky ≠ x.a then putK Cg.ky (rpA w l) ⟨x.no, x.d, x.c, x.a, wantAt w x.ky⟩ else rpA w l := by simp [rpA]
theorem rpB_snoc (l : List Lv) (A : List Cg) (w : List Fl) (y : Fl) : rpB l A (w ++ [y]) = if ∃ x ∈ l, y.ky = x.ky then rpB l A w else putK Cg.ky (rpB l A w) ⟨-1, y.d, y.c, 0, y.a⟩ := by simp [rpB]
theorem rpA_ok (w : List Fl) (l : List Lv) (hl : (l.map Lv.ky).Nodup) : Rising Cg.ky (rpA w l) ∧ ∀ c, c ∈ rpA w l ↔ ∃ x ∈ l, c = ⟨x.no, x.d, x.c, x.a, wantAt w x.ky⟩ ∧ c.o ≠ c.n := by
  induction l using rev_ind with
  | nil => exact ⟨List.Pairwise.nil, fun c => by simp [rpA]⟩
  | snoc l x ih =>
    rw [List.map_append, List.nodup_append] at hl
    obtain ⟨h1, h2⟩ := ih hl.1
    have hx : ∀ z ∈ l, z.ky ≠ x.ky := fun z hz => hl.2.2 z.ky (List.mem_map_of_mem hz) x.ky (by simp)
    rw [rpA_snoc]
    split
    · rename_i hne
      refine ⟨putK_rising h1, fun c => ?_⟩
      rw [putK_mem h1, h2]
      constructor
      · rintro (rfl | ⟨⟨z, hz, e, hn⟩, _⟩)
        · exact ⟨x, by simp, rfl, fun e => hne e.symm⟩
        · exact ⟨z, by simp [hz], e, hn⟩
      · rintro ⟨z, hz, rfl, hn⟩
        rcases List.mem_append.1 hz with hz | hz
        · exact .inr ⟨⟨z, hz, rfl, hn⟩, hx z hz⟩
        · rw [List.mem_singleton.1 hz]; exact .inl rfl
    · rename_i heq
      refine ⟨h1, fun c => ?_⟩
      rw [h2]
      constructor
      · rintro ⟨z, hz, e, hn⟩; exact ⟨z, by simp [hz], e, hn⟩
      · rintro ⟨z, hz, rfl, hn⟩
        rcases List.mem_append.1 hz with hz | hz
        · exact ⟨z, hz, rfl, hn⟩
        · rw [List.mem_singleton.1 hz] at hn
          exact absurd (fun e => hn e.symm) heq
theorem rpB_ok {l : List Lv} {w0 : List Fl} (hl : (l.map Lv.ky).Nodup) (w : List Fl) (hw : Rising Fl.ky w) : Rising Cg.ky (rpB l (rpA w0 l) w) ∧ ∀ c, c ∈ rpB l (rpA w0 l) w ↔ c ∈ rpA w0 l ∨ ∃ y ∈ w, (∀ x ∈ l, x.ky ≠ y.ky) ∧ c = ⟨-1, y.d, y.c, 0, y.a⟩ := by
  obtain ⟨hA1, hA2⟩ := rpA_ok w0 l hl
  induction w using rev_ind with
  | nil => exact ⟨hA1, fun c => by simp [rpB]⟩
  | snoc w y ih =>
    have hr := List.pairwise_append.1 hw
    obtain ⟨h1, h2⟩ := ih hr.1
    rw [rpB_snoc]
    split
    · rename_i hex
      refine ⟨h1, fun c => ?_⟩
      rw [h2]
      constructor
      · rintro (h | ⟨z, hz, h3, e⟩)
        · exact .inl h
        · exact .inr ⟨z, by simp [hz], h3, e⟩
      · rintro (h | ⟨z, hz, h3, e⟩)
        · exact .inl h
        · rcases List.mem_append.1 hz with hz | hz
          · exact .inr ⟨z, hz, h3, e⟩
          · rw [List.mem_singleton.1 hz] at h3
            obtain ⟨x, hx, e'⟩ := hex
            exact absurd e'.symm (h3 x hx)
    · rename_i hno
      have hny : ∀ x ∈ l, x.ky ≠ y.ky := fun x hx e => hno ⟨x, hx, e.symm⟩
      refine ⟨putK_rising h1, fun c => ?_⟩
      rw [putK_mem h1, h2]
      constructor
      · rintro (rfl | ⟨h | ⟨z, hz, h3, e⟩, _⟩)
        · exact .inr ⟨y, by simp, hny, rfl⟩
        · exact .inl h
        · exact .inr ⟨z, by simp [hz], h3, e⟩
      · rintro (h | ⟨z, hz, h3, rfl⟩)
        · refine .inr ⟨.inl h, ?_⟩
          obtain ⟨x, hx, rfl, _⟩ := (hA2 c).1 h
          exact hny x hx
        · rcases List.mem_append.1 hz with hz | hz
          · exact .inr ⟨.inr ⟨z, hz, h3, rfl⟩, ltK_ne (hr.2.2 z hz y (by simp))⟩
          · rw [List.mem_singleton.1 hz]; exact .inl rfl
theorem ref_plan {l : List Lv} {w : List Fl} (hl : (l.map Lv.ky).Nodup) (hw : ordB w = true) : IsPlan l w (rpB l (rpA w l) w) := by
  obtain ⟨ha, hr⟩ := ordB_ok hw
  obtain ⟨h1, h2⟩ := rpB_ok (w0 := w) hl w hr
  refine ⟨h1, fun c => ?_⟩
  rw [h2, (rpA_ok w l hl).2]
  unfold InPlan AllC
  constructor
  · rintro (⟨x, hx, e, hn⟩ | ⟨y, hy, h3, rfl⟩)
    · exact ⟨.inl ⟨x, hx, e⟩, hn⟩
    · exact ⟨.inr ⟨y, hy, h3, rfl⟩, fun e => ha y hy e.symm⟩
  · rintro ⟨⟨x, hx, e⟩ | ⟨y, hy, h3, e⟩, hn⟩
    · exact .inl ⟨x, hx, e, hn⟩
    · exact .inr ⟨y, hy, h3, e⟩

end Go.Proofs.YtmjgcenhgpkhiaaDoor
namespace Go.Proofs.YtmjgcenhgpkhiaaDoor
set_option linter.unusedVariables false
set_option linter.unusedSimpArgs false

/-- The amounts by place. -/
def updN (N : List (KD × Int)) (c : Cg) : List (KD × Int) := (c.ky, c.n) :: N.filter fun p => decide (p.1 ≠ c.ky)
def liveN (x : Lv) : KD × Int := (x.ky, x.a)
/-- What is booked at a place behind changes. -/
def NowIs (l : List Lv) (cs : List Cg) (p : KD × Int) : Prop := (∃ c ∈ cs, c.ky = p.1 ∧ c.n = p.2) ∨ ((∀ c ∈ cs, c.ky ≠ p.1) ∧ ∃ x ∈ l, x.ky = p.1 ∧ x.a = p.2)
theorem updN_keys {N : List (KD × Int)} {c : Cg} (h : (N.map (·.1)).Nodup) : ((updN N c).map (·.1)).Nodup := by
  unfold updN
  rw [List.map_cons, List.nodup_cons]
  refine ⟨fun hm => ?_, h.sublist (List.filter_sublist.map _)⟩
  obtain ⟨p, hp, e⟩ := List.mem_map.1 hm
  have := (List.mem_filter.1 hp).2
  simp [e] at this
theorem now_fold {l : List Lv} (hl : (l.map Lv.ky).Nodup) (cs : List Cg) (hc : (cs.map Cg.ky).Nodup) : ((cs.foldl updN (l.map liveN)).map (·.1)).Nodup ∧ ∀ p, p ∈ cs.foldl updN (l.map liveN) ↔ NowIs l cs p := by
  induction cs using rev_ind with
  | nil =>
    refine ⟨by rw [List.foldl_nil, List.map_map]; exact hl, fun p => ?_⟩
    rw [List.foldl_nil, List.mem_map]
    unfold NowIs
    constructor
    · rintro ⟨x, hx, rfl⟩; exact .inr ⟨by simp, x, hx, rfl, rfl⟩
    · rintro (⟨c, hc, _⟩ | ⟨_, x, hx, h1, h2⟩)
      · cases hc
      · exact ⟨x, hx, by obtain ⟨k, n⟩ := p; simp only at h1 h2; rw [← h1, ← h2]; rfl⟩
  | snoc cs c ih =>
    rw [List.map_append, List.nodup_append] at hc
    obtain ⟨h1, h2⟩ := ih hc.1
    have hcn : ∀ b ∈ cs, b.ky ≠ c.ky := fun b hb => hc.2.2 b.ky (List.mem_map_of_mem hb) c.ky (by simp)
    rw [List.foldl_append]
    refine ⟨updN_keys h1, fun p => ?_⟩
    show p ∈ (c.ky, c.n) :: (cs.foldl updN (l.map liveN)).filter (fun p => decide (p.1 ≠ c.ky)) ↔ _
    rw [List.mem_cons, List.mem_filter, h2]
    unfold NowIs
    constructor
    · rintro (rfl | ⟨⟨b, hb, h3, h4⟩ | ⟨h3, x, hx, h4, h5⟩, hne⟩)
      · exact .inl ⟨c, by simp, rfl, rfl⟩
      · exact .inl ⟨b, by simp [hb], h3, h4⟩
      · refine .inr ⟨fun b hb => ?_, x, hx, h4, h5⟩
        rcases List.mem_append.1 hb with hb | hb
        · exact h3 b hb
        · rw [List.mem_singleton.1 hb]
          intro e
          simp [e] at hne
    · rintro (⟨b, hb, h3, h4⟩ | ⟨h3, x, hx, h4, h5⟩)
      · rcases List.mem_append.1 hb with hb | hb
        · refine .inr ⟨.inl ⟨b, hb, h3, h4⟩, ?_⟩
          rw [← h3]
          simpa using hcn b hb
        · rw [List.mem_singleton.1 hb] at h3 h4
          left
          obtain ⟨k, n⟩ := p
          simp only at h3 h4
          rw [← h3, ← h4]
      · refine .inr ⟨.inr ⟨fun b hb => h3 b (by simp [hb]), x, hx, h4, h5⟩, ?_⟩
        have := h3 c (by simp)
        simpa using Ne.symm this
theorem IsPlan.keys {l : List Lv} {w : List Fl} {p : List Cg} (h : IsPlan l w p) : (p.map Cg.ky).Nodup := h.ra.keys
/-- Of a key there is one. -/
theorem one_live {l : List Lv} (hl : (l.map Lv.ky).Nodup) {x z : Lv} (hx : x ∈ l) (hz : z ∈ l) (e : x.ky = z.ky) : x = z := by
  obtain ⟨i, hi, e1⟩ := List.getElem_of_mem hx
  obtain ⟨k, hk, e2⟩ := List.getElem_of_mem hz
  have h3 : (l.map Lv.ky)[i]? = (l.map Lv.ky)[k]? := by
    rw [List.getElem?_map, List.getElem?_map, List.getElem?_eq_getElem hi, List.getElem?_eq_getElem hk, e1, e2]
    simp [e]
  have h4 : i = k := (List.getElem?_inj (by simpa using hi) hl).1 h3
  subst h4
  rw [← e1, e2]
theorem now_want {l : List Lv} {w : List Fl} {cs : List Cg} (hk : ckE l = 0) (hw : ordB w = true) (hp : IsPlan l w cs) (k : KD) (n : Int) (hn : n ≠ 0) : NowIs l cs (k, n) ↔ ∃ y ∈ w, y.ky = k ∧ y.a = n := by
  obtain ⟨_, h2, h3, _⟩ := ckE_ok hk
  obtain ⟨ha, hr⟩ := ordB_ok hw
  unfold NowIs
  dsimp only
  constructor
  · rintro (⟨c, hc, rfl, rfl⟩ | ⟨hno, x, hx, rfl, rfl⟩)
    · obtain ⟨hA, hne⟩ := (hp.mem c).1 hc
      rcases hA with ⟨x, hx, rfl⟩ | ⟨y, hy, _, rfl⟩
      · dsimp only at hn
        by_cases hex : ∃ y ∈ w, y.ky = x.ky
        · obtain ⟨y, hy, e⟩ := hex
          exact ⟨y, hy, e, by dsimp only; rw [← e, wantAt_in hr hy]⟩
        · exact absurd (wantAt_out fun y hy e => hex ⟨y, hy, e⟩) hn
      · exact ⟨y, hy, rfl, rfl⟩
    · by_cases heq : wantAt w x.ky = x.a
      · by_cases hex : ∃ y ∈ w, y.ky = x.ky
        · obtain ⟨y, hy, e⟩ := hex
          exact ⟨y, hy, e, by rw [← heq, ← e, wantAt_in hr hy]⟩
        · exact absurd (heq ▸ wantAt_out fun y hy e => hex ⟨y, hy, e⟩) hn
      · exact absurd rfl (hno ⟨x.no, x.d, x.c, x.a, wantAt w x.ky⟩ ((hp.mem _).2 ⟨.inl ⟨x, hx, rfl⟩, fun e => heq e.symm⟩))
  · rintro ⟨y, hy, rfl, rfl⟩
    by_cases hex : ∃ x ∈ l, x.ky = y.ky
    · obtain ⟨x, hx, e⟩ := hex
      have hat : wantAt w x.ky = y.a := by rw [e, wantAt_in hr hy]
      by_cases heq : x.a = y.a
      · refine .inr ⟨fun c hc e' => ?_, x, hx, e, heq⟩
        obtain ⟨hA, hne⟩ := (hp.mem c).1 hc
        rcases hA with ⟨z, hz, rfl⟩ | ⟨y', hy', hno, rfl⟩
        · have : z = x := one_live h3 hz hx (show z.ky = x.ky from e'.trans e.symm)
          subst this
          exact hne (show z.a = wantAt w z.ky by rw [hat, heq])
        · exact hno x hx (e.trans e'.symm)
      · exact .inl ⟨⟨x.no, x.d, x.c, x.a, wantAt w x.ky⟩, (hp.mem _).2 ⟨.inl ⟨x, hx, rfl⟩, fun e' => heq (show x.a = y.a by rw [← hat]; exact e')⟩, e, hat⟩
    · exact .inl ⟨⟨-1, y.d, y.c, 0, y.a⟩, (hp.mem _).2 ⟨.inr ⟨y, hy, fun x hx e => hex ⟨x, hx, e⟩, rfl⟩, fun e => ha y hy e.symm⟩, rfl, rfl⟩
/-- The amount at a place. -/
def valN (N : List (KD × Int)) (k : KD) : Int := match N.find? (fun p => decide (p.1 = k)) with | none => 0 | some p => p.2
theorem valN_in {N : List (KD × Int)} (h : (N.map (·.1)).Nodup) {k : KD} (hk : k ∈ N.map (·.1)) : (k, valN N k) ∈ N := by
  unfold valN
  cases hf : N.find? (fun p => decide (p.1 = k)) with
  | none =>
    obtain ⟨p, hp, e⟩ := List.mem_map.1 hk
    have := List.find?_eq_none.1 hf p hp
    simp [e] at this
  | some p =>
    have h1 := List.mem_of_find?_eq_some hf
    have h2 : p.1 = k := by simpa using List.find?_some hf
    obtain ⟨a, b⟩ := p
    simp only at h2
    subst h2
    exact h1
theorem valN_one {N : List (KD × Int)} (h : (N.map (·.1)).Nodup) {k : KD} {n : Int} (hk : (k, n) ∈ N) : valN N k = n := by
  have h1 := valN_in h (k := k) (List.mem_map.2 ⟨_, hk, rfl⟩)
  obtain ⟨i, hi, e1⟩ := List.getElem_of_mem h1
  obtain ⟨j, hj, e2⟩ := List.getElem_of_mem hk
  have h3 : (N.map (·.1))[i]? = (N.map (·.1))[j]? := by
    rw [List.getElem?_map, List.getElem?_map, List.getElem?_eq_getElem hi, List.getElem?_eq_getElem hj, e1, e2]; rfl
  have h4 : i = j := (List.getElem?_inj (by simpa using hi) h).1 h3
  subst h4
  rw [e1] at e2
  exact (Prod.mk.inj e2).2
/-- The flows of the places, those of nought left out. -/
def outN (N : List (KD × Int)) (K : List KD) : List Fl := K.filterMap fun k => if valN N k = 0 then none else some ⟨k.1, k.2, valN N k⟩
theorem outN_snoc (N : List (KD × Int)) (K : List KD) (k : KD) : outN N (K ++ [k]) = if valN N k = 0 then outN N K else outN N K ++ [⟨k.1, k.2, valN N k⟩] := by
  unfold outN
  rw [List.filterMap_append]
  split <;> rename_i h <;> simp [h]
theorem outN_mem {N : List (KD × Int)} {K : List KD} {y : Fl} : y ∈ outN N K ↔ y.ky ∈ K ∧ y.a = valN N y.ky ∧ y.a ≠ 0 := by
  unfold outN
  rw [List.mem_filterMap]
  constructor
  · rintro ⟨k, hk, e⟩
    split at e
    · cases e
    · rename_i hn
      cases e
      exact ⟨hk, rfl, hn⟩
  · rintro ⟨h1, h2, h3⟩
    refine ⟨y.ky, h1, ?_⟩
    rw [← h2, if_neg h3]
    rfl
theorem outN_rising {N : List (KD × Int)} {K : List KD} (h : K.Pairwise ltK) : Rising Fl.ky (outN N K) := by
  unfold Rising outN
  refine List.Pairwise.filterMap _ (fun a b hab y hy z hz => ?_) h
  split at hy
  · cases hy
  · split at hz
    · cases hz
    · cases hy; cases hz; exact hab
/-- What is booked behind a plan is what was wanted. -/
theorem out_want {l : List Lv} {w : List Fl} {cs : List Cg} (hk : ckE l = 0) (hw : ordB w = true) (hp : IsPlan l w cs) {K : List KD} (hK : K.Pairwise ltK) (hm : ∀ k, k ∈ K ↔ k ∈ (cs.foldl updN (l.map liveN)).map (·.1)) : outN (cs.foldl updN (l.map liveN)) K = w := by
  obtain ⟨_, _, h3, _⟩ := ckE_ok hk
  obtain ⟨ha, hr⟩ := ordB_ok hw
  obtain ⟨g1, g2⟩ := now_fold h3 cs hp.keys
  refine rising_ext (outN_rising hK) hr fun y => ?_
  rw [outN_mem, hm]
  constructor
  · rintro ⟨h4, h5, h6⟩
    have h7 := valN_in g1 h4
    rw [← h5, g2, now_want hk hw hp _ _ h6] at h7
    obtain ⟨z, hz, e1, e2⟩ := h7
    have : z = y := by
      obtain ⟨zd, zc, za⟩ := z
      obtain ⟨yd, yc, ya⟩ := y
      simp only [Fl.ky, Prod.mk.injEq] at e1 e2
      obtain ⟨rfl, rfl⟩ := e1
      rw [e2]
    rw [← this]
    exact hz
  · intro hy
    have h7 := (g2 (y.ky, y.a)).2 ((now_want hk hw hp _ _ (ha y hy)).2 ⟨y, hy, rfl, rfl⟩)
    exact ⟨List.mem_map.2 ⟨_, h7, rfl⟩, (valN_one g1 h7).symm, ha y hy⟩
/-- What is there, as flows. -/
def flowsOf (l : List Lv) : List Fl := l.foldl (fun acc x => putK Fl.ky acc ⟨x.d, x.c, x.a⟩) []
theorem flowsOf_ok (l : List Lv) (hl : (l.map Lv.ky).Nodup) : Rising Fl.ky (flowsOf l) ∧ ∀ y, y ∈ flowsOf l ↔ ∃ x ∈ l, y = ⟨x.d, x.c, x.a⟩ := by
  induction l using rev_ind with
  | nil => exact ⟨List.Pairwise.nil, fun y => by simp [flowsOf]⟩
  | snoc l x ih =>
    rw [List.map_append, List.nodup_append] at hl
    obtain ⟨h1, h2⟩ := ih hl.1
    have hx : ∀ z ∈ l, z.ky ≠ x.ky := fun z hz => hl.2.2 z.ky (List.mem_map_of_mem hz) x.ky (by simp)
    have e : flowsOf (l ++ [x]) = putK Fl.ky (flowsOf l) ⟨x.d, x.c, x.a⟩ := by simp [flowsOf]
    rw [e]
    refine ⟨putK_rising h1, fun y => ?_⟩
    rw [putK_mem h1, h2]
    constructor
    · rintro (rfl | ⟨⟨z, hz, rfl⟩, _⟩)
      · exact ⟨x, by simp, rfl⟩
      · exact ⟨z, by simp [hz], rfl⟩
    · rintro ⟨z, hz, rfl⟩
      rcases List.mem_append.1 hz with hz | hz
      · exact .inr ⟨⟨z, hz, rfl⟩, hx z hz⟩
      · rw [List.mem_singleton.1 hz]; exact .inl rfl
/-- The plan of what is there is nothing. -/
theorem plan_none {l : List Lv} (hk : ckE l = 0) : ordB (flowsOf l) = true ∧ IsPlan l (flowsOf l) [] := by
  obtain ⟨_, h2, h3, _⟩ := ckE_ok hk
  obtain ⟨hr, hm⟩ := flowsOf_ok l h3
  refine ⟨ordB_of (fun y hy => ?_) hr, List.Pairwise.nil, fun c => ⟨fun h => (by cases h), ?_⟩⟩
  · obtain ⟨x, hx, rfl⟩ := (hm y).1 hy
    exact h2 x hx
  · rintro ⟨⟨x, hx, rfl⟩ | ⟨y, hy, hno, rfl⟩, hne⟩
    · exact absurd (show x.a = wantAt (flowsOf l) x.ky from (wantAt_in hr (y := ⟨x.d, x.c, x.a⟩) ((hm _).2 ⟨x, hx, rfl⟩)).symm) hne
    · obtain ⟨x, hx, rfl⟩ := (hm y).1 hy
      exact absurd rfl (hno x hx)
theorem flowsOf_perm {l l' : List Lv} (hl : (l.map Lv.ky).Nodup) (p : l.Perm l') : flowsOf l = flowsOf l' := by
  obtain ⟨h1, h2⟩ := flowsOf_ok l hl
  obtain ⟨h3, h4⟩ := flowsOf_ok l' ((p.map _).nodup_iff.1 hl)
  exact rising_ext h1 h3 fun y => by rw [h2, h4]; exact ⟨fun ⟨x, hx, e⟩ => ⟨x, p.mem_iff.1 hx, e⟩, fun ⟨x, hx, e⟩ => ⟨x, p.mem_iff.2 hx, e⟩⟩
theorem nodup_len {α : Type} [DecidableEq α] : ∀ (l m : List α), l.Nodup → (∀ x ∈ l, x ∈ m) → l.length ≤ m.length
  | [], m, _, _ => by simp
  | a :: l, m, h, hs => by
    obtain ⟨h1, h2⟩ := List.nodup_cons.1 h
    have ha := hs a (by simp)
    have ih := nodup_len l (m.erase a) h2 fun x hx => (List.mem_erase_of_ne (fun e => h1 (by rw [← e]; exact hx))).2 (hs x (by simp [hx]))
    rw [List.length_erase_of_mem ha] at ih
    have := List.length_pos_of_mem ha
    simp only [List.length_cons]
    omega
/-- A plan is no longer than what is there and what is wanted. -/
theorem plan_len {l : List Lv} {w : List Fl} {p : List Cg} (h : IsPlan l w p) : p.length ≤ l.length + w.length := by
  have hs : ∀ c ∈ p, c ∈ l.map (fun x => (⟨x.no, x.d, x.c, x.a, wantAt w x.ky⟩ : Cg)) ++ w.map (fun y => (⟨-1, y.d, y.c, 0, y.a⟩ : Cg)) := fun c hc => by
    rcases ((h.mem c).1 hc).1 with ⟨x, hx, rfl⟩ | ⟨y, hy, _, rfl⟩
    · exact List.mem_append.2 (.inl (List.mem_map.2 ⟨x, hx, rfl⟩))
    · exact List.mem_append.2 (.inr (List.mem_map.2 ⟨y, hy, rfl⟩))
  have := nodup_len _ _ h.ra.nodup hs
  simpa using this
/-- What a plan's changes are like. -/
theorem plan_like {l : List Lv} {w : List Fl} {p : List Cg} (hk : ckE l = 0) (h : IsPlan l w p) : ∀ c ∈ p, c.o ≠ c.n ∧ (c.no = -1 ↔ c.o = 0) := fun c hc => by
  obtain ⟨h1, h2, _, _⟩ := ckE_ok hk
  obtain ⟨hA, hne⟩ := (h.mem c).1 hc
  refine ⟨hne, ?_⟩
  rcases hA with ⟨x, hx, rfl⟩ | ⟨y, hy, _, rfl⟩
  · have e1 := h1 x hx
    have e2 := h2 x hx
    dsimp only
    constructor
    · intro e; omega
    · intro e; exact absurd e e2
  · simp

end Go.Proofs.YtmjgcenhgpkhiaaDoor
namespace Go.Proofs.YtmjgcenhgpkhiaaDoor
set_option linter.unusedVariables false
set_option linter.unusedSimpArgs false

section
variable {α : Type} [DecidableEq α]
/-- The distinct ones. -/
def setK (l : List α) : List α := l.foldl (fun acc k => k :: acc.filter fun y => decide (y ≠ k)) []
theorem setK_snoc (l : List α) (x : α) : setK (l ++ [x]) = x :: (setK l).filter fun y => decide (y ≠ x) := by simp [setK]
theorem setK_ok (l : List α) : (setK l).Nodup ∧ (∀ x, x ∈ setK l ↔ x ∈ l) ∧ (setK l).length ≤ l.length ∧ ((setK l).length = l.length ↔ l.Nodup) := by
  induction l using rev_ind with
  | nil => exact ⟨List.nodup_nil, fun x => by simp [setK], by simp [setK], by simp [setK]⟩
  | snoc l x ih =>
    obtain ⟨h1, h2, h3, h4⟩ := ih
    rw [setK_snoc]
    have hf : ((setK l).filter fun y => decide (y ≠ x)).Nodup := h1.sublist List.filter_sublist
    have hm : ∀ y, y ∈ (setK l).filter (fun y => decide (y ≠ x)) ↔ y ∈ l ∧ y ≠ x := fun y => by rw [List.mem_filter, h2]; simp
    have hx : x ∉ (setK l).filter fun y => decide (y ≠ x) := fun h => ((hm x).1 h).2 rfl
    refine ⟨List.nodup_cons.2 ⟨hx, hf⟩, fun y => ?_, ?_, ?_⟩
    · rw [List.mem_cons, hm, List.mem_append, List.mem_singleton]
      constructor
      · rintro (rfl | ⟨h, _⟩)
        · exact .inr rfl
        · exact .inl h
      · rintro (h | rfl)
        · by_cases e : y = x
          · exact .inl e
          · exact .inr ⟨h, e⟩
        · exact .inl rfl
    · have := List.length_filter_le (fun y => decide (y ≠ x)) (setK l)
      simp only [List.length_cons, List.length_append, List.length_nil]
      omega
    · simp only [List.length_cons, List.length_append, List.length_nil]
      by_cases hxl : x ∈ l
      · have hlt : ((setK l).filter fun y => decide (y ≠ x)).length < (setK l).length := by
          have hn := nodup_len (x :: (setK l).filter fun y => decide (y ≠ x)) (setK l) (List.nodup_cons.2 ⟨hx, hf⟩) fun y hy => by
            rcases List.mem_cons.1 hy with rfl | hy
            · exact (h2 _).2 hxl
            · exact (List.mem_filter.1 hy).1
          simp only [List.length_cons] at hn; omega
        constructor
        · intro e; omega
        · intro hn
          rw [List.nodup_append] at hn
          exact absurd rfl (hn.2.2 x hxl x (by simp))
      · have he : (setK l).filter (fun y => decide (y ≠ x)) = setK l := List.filter_eq_self.2 fun y hy => by
          have := (h2 y).1 hy
          simp only [ne_eq, decide_not, Bool.not_eq_true', decide_eq_false_iff_not]
          rintro rfl
          exact hxl this
        rw [he]
        constructor
        · intro e
          have := h4.1 (by omega)
          exact List.nodup_append.2 ⟨this, by simp, fun a ha b hb e => by rw [List.mem_singleton.1 hb] at e; subst e; exact hxl ha⟩
        · intro hn
          have := h4.2 (List.nodup_append.1 hn).1
          omega
theorem setK_lt (l : List α) : (setK l).length < l.length ↔ ¬ l.Nodup := by
  obtain ⟨_, _, h3, h4⟩ := setK_ok l
  constructor
  · intro h hn
    have := h4.2 hn
    omega
  · intro hn
    have : (setK l).length ≠ l.length := fun e => hn (h4.1 e)
    omega
end

end Go.Proofs.YtmjgcenhgpkhiaaDoor
namespace Go.Proofs.YtmjgcenhgpkhiaaDoor
open Go.RowKit Go.Sort Go.Shelf
set_option linter.unusedVariables false
set_option linter.unusedSimpArgs false

abbrev encP (k : KD) : List Value := [.int .i64 k.1, .int .i64 k.2]
theorem encP_one : ∀ k : KD, ∀ v ∈ encP k, v.oneCell' = true := fun x v hv => by simp [encP] at hv; rcases hv with rfl | rfl <;> rfl
theorem infoPl : (Tryd.prog.info? 91).map (fun i => (i.zero, i.size, i.bytes)) = some (some (.agg #[.int .i64 0, .int .i64 0]), 2, 16) := by kernel_rfl

set_option maxHeartbeats 1000000 in
set_option maxRecDepth 100000 in
theorem compare_ok (x y : KD) (W : World) : Calls Tryd.prog 55 #[.agg (encP x).toArray, .agg (encP y).toArray] W fun e w' => e = .returned (.int .i64 (cmpKD x y)) ∧ ∃ q os', w' = grow (W.drewN q) os' := by
  obtain ⟨k1, d1⟩ := x
  obtain ⟨k2, d2⟩ := y
  show Calls _ _ #[.agg #[.int .i64 k1, .int .i64 d1], .agg #[.int .i64 k2, .int .i64 d2]] _ fun e w' => e = .returned (.int .i64 (cmpKD (k1, d1) (k2, d2))) ∧ _
  have H1 := Lib.hid (fun x y W => cmpi_ok x y W)
  have HV : Hid (cmpKD (k1, d1) (k2, d2) = if cmpI k1 k2 = 0 then cmpI d1 d2 else cmpI k1 k2) := rfl
  obtain ⟨F, hF⟩ : ∃ F, cmpI = F := ⟨_, rfl⟩
  rw [hF] at H1 HV
  rw [HV.out]
  obtain ⟨V, hV⟩ : ∃ V, (if F k1 k2 = 0 then F d1 d2 else F k1 k2) = V := ⟨_, rfl⟩
  rw [hV]
  have HVV := Lib.hid hV
  clear hF HV hV
  go_enter Tryd.func55, Tryd.ntmps55
  go_wp2_with fail
  obtain ⟨Wa, hWa⟩ : ∃ Wa, (W.alloc (.cells #[.int .i64 k1, .int .i64 d1] 91)).alloc (.cells #[.int .i64 k2, .int .i64 d2] 91) = Wa := ⟨_, rfl⟩
  have kb : Blk Wa (W.heap.size + 1) #[.int .i64 k2, .int .i64 d2] 91 := by
    rw [← hWa]
    have := Blk.new (W.alloc (.cells #[.int .i64 k1, .int .i64 d1] 91)) #[.int .i64 k2, .int .i64 d2] 91
    simpa using this
  have ka : Blk Wa W.heap.size #[.int .i64 k1, .int .i64 d1] 91 := by
    rw [← hWa]
    exact (Blk.new W #[.int .i64 k1, .int .i64 d1] 91).grown (World.grownBy_alloc _ _ none) (by simp)
  have HWA := Lib.hid hWa
  have a0 : Wa.cell? ⟨W.heap.size, 0, none⟩ = some (.int .i64 k1) := ka.cell 0 rfl
  have a1 : Wa.cell? ⟨W.heap.size, 1, none⟩ = some (.int .i64 d1) := ka.cell 1 rfl
  have b0 : Wa.cell? ⟨W.heap.size + 1, 0, none⟩ = some (.int .i64 k2) := kb.cell 0 rfl
  have b1 : Wa.cell? ⟨W.heap.size + 1, 1, none⟩ = some (.int .i64 d2) := kb.cell 1 rfl
  rw [hWa]
  clear hWa
  have HA := Lib.hid (show Wa.drew.cell? ⟨W.heap.size, 0, none⟩ = some (.int .i64 k1) ∧ Wa.drew.cell? ⟨W.heap.size, 1, none⟩ = some (.int .i64 d1) ∧ Wa.drew.cell? ⟨W.heap.size + 1, 0, none⟩ = some (.int .i64 k2) ∧ Wa.drew.cell? ⟨W.heap.size + 1, 1, none⟩ = some (.int .i64 d2) from ⟨a0, a1, b0, b1⟩)
  have HB := Lib.hid (show ∀ o, (Wa.alloc o).drew.cell? ⟨W.heap.size, 0, none⟩ = some (.int .i64 k1) ∧ (Wa.alloc o).drew.cell? ⟨W.heap.size, 1, none⟩ = some (.int .i64 d1) ∧ (Wa.alloc o).drew.cell? ⟨W.heap.size + 1, 0, none⟩ = some (.int .i64 k2) ∧ (Wa.alloc o).drew.cell? ⟨W.heap.size + 1, 1, none⟩ = some (.int .i64 d2) from fun o => by
    have B := ((RowKit.Below.refl Wa.heap.size Wa).alloc (Nat.le_refl _) o).drew
    exact ⟨(ka.after B).cell 0 rfl, (ka.after B).cell 1 rfl, (kb.after B).cell 0 rfl, (kb.after B).cell 1 rfl⟩)
  clear ka kb
  have HO := Lib.hid (or_ok (F k1 k2) (F d1 d2) Wa.heap.size 2 (Wa.alloc (.cells #[.int .i64 (F k1 k2), .int .i64 (F d1 d2)] 3)).drew ((Blk.new Wa #[.int .i64 (F k1 k2), .int .i64 (F d1 d2)] 3).cell 0 rfl) ((Blk.new Wa #[.int .i64 (F k1 k2), .int .i64 (F d1 d2)] 3).cell 1 rfl))
  rw [HVV.out] at HO
  go_region_held3 (fun w' => w'.cell? ⟨W.heap.size, 0, none⟩ = some (.int .i64 k1) ∧ w'.cell? ⟨W.heap.size, 1, none⟩ = some (.int .i64 d1) ∧ w'.cell? ⟨W.heap.size + 1, 0, none⟩ = some (.int .i64 k2) ∧ w'.cell? ⟨W.heap.size + 1, 1, none⟩ = some (.int .i64 d2))
    (first | with_reducible exact HA.out | with_reducible exact HB.out _)
    (first
      | (go_at_call 65; refine (H1.out _ _ _).mono ?_; rintro e w1 ⟨rfl, rfl⟩)
      | (go_at_call 64; with_reducible refine HO.out.mono ?_; rintro e w1 ⟨rfl, rfl⟩))
  go_wp2_with fail
  go_ret
  exact ⟨rfl, 1, _, by rw [← HWA.out, alloc_eq_grow, alloc_eq_grow, alloc_eq_grow, grow_grow, grow_grow]; rfl⟩

end Go.Proofs.YtmjgcenhgpkhiaaDoor
