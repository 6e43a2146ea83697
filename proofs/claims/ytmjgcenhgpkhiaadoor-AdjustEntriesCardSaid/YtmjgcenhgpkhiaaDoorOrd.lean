/- The order of ints and of pairs: cmp.Compare, cmp.Or; what a sort leaves; what is left of a range over a map; a slice behind an iterator. -/
import Derived.Test.YtmjgcenhgpkhiaaDoorFacA
import Derived.Test.YtmjgcenhgpkhiaaDoorMapW
import Derived.Test.YtmjgcenhgpkhiaaDoorEqs
import Derived.Test.YtmjgcenhgpkhiaaDoorHeld
import Derived.Test.YtmjgcenhgpkhiaaDoorBits
import Derived.Test.YtmjgcenhgpkhiaaDoorBase
import Derived.Test.YtmjgcenhgpkhiaaDoorRows
import Derived.Test.YtmjgcenhgpkhiaaDoorInts
import Derived.Shelf.SlSortCmp.NoneTotal
import Derived.Deep.LoopGhost
import Derived.Deep.AppendLies
import Derived.StillTailTactics
import Derived.BigQuiet
namespace Go.Proofs.YtmjgcenhgpkhiaaDoor
open Go.RowKit Go.Sort Go.Shelf
set_option linter.unusedVariables false
set_option linter.unusedSimpArgs false

/-- What cmp.Compare answers. -/
def cmpI (x y : Int) : Int := if x < y then -1 else if y < x then 1 else 0
theorem nani_ok (x : Int) (w : World) : Calls Tryd.prog 72 #[.int .i64 x] w fun e w' => e = .returned (.bool false) ∧ w' = w := by
  go_enter Tryd.func72, Tryd.ntmps72
  go_wp2_with fail
  go_ret
  exact ⟨by simp, rfl⟩
set_option maxHeartbeats 1000000 in
theorem cmpi_ok (x y : Int) (w : World) : Calls Tryd.prog 65 #[.int .i64 x, .int .i64 y] w fun e w' => e = .returned (.int .i64 (cmpI x y)) ∧ w' = w := by
  obtain ⟨V, hV⟩ : ∃ V : Int, cmpI x y = V := ⟨_, rfl⟩
  rw [hV]
  unfold cmpI at hV
  rcases Int.lt_trichotomy x y with h | h | h
  · obtain rfl : -1 = V := by rw [← hV, if_pos h]
    clear hV
    go_enter Tryd.func65, Tryd.ntmps65
    go_wp2_with fail
    with_reducible refine (nani_ok _ _).mono ?_
    rintro e w1 ⟨rfl, rfl⟩
    go_wp2_with fail
    with_reducible refine (nani_ok _ _).mono ?_
    rintro e w1 ⟨rfl, rfl⟩
    go_wp2_with fail
    go_ret
    exact ⟨rfl, rfl⟩
  · subst h
    obtain rfl : 0 = V := by rw [← hV, if_neg (by omega), if_neg (by omega)]
    clear hV
    go_enter Tryd.func65, Tryd.ntmps65
    go_wp2_with fail
    with_reducible refine (nani_ok _ _).mono ?_
    rintro e w1 ⟨rfl, rfl⟩
    go_wp2_with fail
    with_reducible refine (nani_ok _ _).mono ?_
    rintro e w1 ⟨rfl, rfl⟩
    go_wp2_with fail
    go_ret
    exact ⟨rfl, rfl⟩
  · obtain rfl : 1 = V := by rw [← hV, if_neg (by omega), if_pos h]
    have h' : decide (x < y) = false := by simp; omega
    clear hV
    go_enter Tryd.func65, Tryd.ntmps65
    go_wp2_with fail
    with_reducible refine (nani_ok _ _).mono ?_
    rintro e w1 ⟨rfl, rfl⟩
    go_wp2_with fail
    with_reducible refine (nani_ok _ _).mono ?_
    rintro e w1 ⟨rfl, rfl⟩
    go_wp2_with fail
    go_ret
    exact ⟨rfl, rfl⟩

theorem perm_in {α : Type} [Inhabited α] {d d' : Array α} (h : PermIn 0 d.size d d') : d'.toList.Perm d.toList := by
  obtain ⟨h1, _, h3⟩ := h
  rw [Array.extract_size] at h3
  rw [← h1, Array.extract_size] at h3
  exact h3
theorem sorted_in {α : Type} [Inhabited α] {lt : α → α → Bool} {d : Array α} (h : SortedIn lt 0 d.size d) : d.toList.Pairwise fun a b => lt b a = false := by
  rw [List.pairwise_iff_getElem]
  intro i j hi hj hij
  have := h i j (Nat.zero_le _) hij (by simpa using hj)
  rw [getElem!_pos d i (by simpa using hi), getElem!_pos d j (by simpa using hj)] at this
  simpa using this
/-- What is left of a range, as facts. -/
theorem left_cons {α : Type} [DecidableEq α] {ent : α → Value × Value} {rest : List α} {x v : Value} {lf : List (Value × Value)} (h : (rest.map ent).Perm ((x, v) :: lf)) :
    ∃ z rest', rest.Perm (z :: rest') ∧ ent z = (x, v) ∧ lf.Perm (rest'.map ent) := by
  obtain ⟨z, h1, h2⟩ := List.mem_map.1 (h.mem_iff.2 (by simp : (x, v) ∈ (x, v) :: lf))
  have p := List.perm_cons_erase h1
  refine ⟨z, rest.erase z, p, h2, ?_⟩
  have q := (p.map ent).symm.trans h
  rw [List.map_cons, h2] at q
  exact ((List.perm_cons _).1 q).symm
theorem IterAt.perm {ok : Value → Prop} {w : World} {B r : Nat} {m left left' : List (Value × Value)} (h : IterAt ok w B r m left) (hp : left.Perm left') : IterAt ok w B r m left' := by
  obtain ⟨es, clock, since, seen, c0, h1, h2, h3, h4, h5, h6⟩ := h
  exact ⟨es, clock, since, seen, c0, h1, h2, h3, h4, h5.trans hp, h6⟩

theorem own_base {w : World} {base size n : Nat} {e : TypeId} {v : Value} {cs : List Value} (h : w.ownsRow base e size v n cs) {g : Nat} (hg : v.ownBlock = some g) : base ≤ g ∧ g < w.heap.size := by
  rcases h.2 with ⟨rfl, _⟩ | ⟨g', cap, cur, rfl, h1, h2, _⟩
  · simp [Value.ownBlock] at hg
  · simp only [Value.ownBlock, Option.some.injEq] at hg
    subst hg
    exact ⟨h1, lt_of_block h2⟩
theorem own_below {w w' : World} {base size n N : Nat} {e : TypeId} {v : Value} {cs : List Value} (h : w.ownsRow base e size v n cs) (hg : w.grownBy w' v.ownBlock) (hb : RowKit.Below N w w) (hN : N ≤ base) (hN' : N ≤ w.heap.size) : RowKit.Below N w w' :=
  hb.grown hg hN' fun k e => by have := (own_base h e).1; omega

theorem alloc_at {w : World} {o : Obj} {n : Nat} (h : w.heap.size = n) : (w.alloc o).heap[n]? = some o := by subst h; exact heap_alloc_new w o


set_option maxHeartbeats 1000000 in
theorem or_ok (a c : Int) (b cap : Nat) (w : World) (c0 : w.cell? ⟨b, 0, none⟩ = some (.int .i64 a)) (c1 : w.cell? ⟨b, 1, none⟩ = some (.int .i64 c)) :
    Calls Tryd.prog 64 #[.slice (some ⟨b, 0, none⟩) 2 cap] w fun e w' => e = .returned (.int .i64 (if a = 0 then c else a)) ∧ w' = w := by
  by_cases h : a = 0
  · rw [if_pos h]
    subst h
    by_cases h2 : c = 0
    · subst h2
      go_enter Tryd.func64, Tryd.ntmps64
      go_wp2_with fail
      refine wp_loop_rounds 3 ?_
      rw [rounds_succ]
      go_wp2_with fail
      rw [rounds_succ]
      go_wp2_with fail
      rw [rounds_succ]
      go_wp2_with fail
      go_ret
      exact ⟨rfl, rfl⟩
    · have h' : (c == 0) = false := by simpa using h2
      clear h2
      go_enter Tryd.func64, Tryd.ntmps64
      go_wp2_with fail
      refine wp_loop_rounds 2 ?_
      rw [rounds_succ]
      go_wp2_with fail
      rw [rounds_succ]
      go_wp2_with fail
      go_ret
      exact ⟨rfl, rfl⟩
  · rw [if_neg h]
    have h' : (a == 0) = false := by simpa using h
    clear h
    go_enter Tryd.func64, Tryd.ntmps64
    go_wp2_with fail
    refine wp_loop_rounds 1 ?_
    rw [rounds_succ]
    go_wp2_with fail
    go_ret
    exact ⟨rfl, rfl⟩

/-- How two places are to one another. -/
def cmpKD (a b : KD) : Int := if cmpI a.1 b.1 = 0 then cmpI a.2 b.2 else cmpI a.1 b.1
theorem cmpKD_lt (a b : KD) : decide (cmpKD a b < 0) = decide (ltK a b) := by
  rw [Bool.eq_iff_iff, decide_eq_true_iff, decide_eq_true_iff]
  unfold cmpKD cmpI ltK
  split <;> split at * <;> (try split at *) <;> (try split at *) <;> omega


theorem swoK {α : Type} (ky : α → KD) : SWO (ltOf fun x y => cmpKD (ky x) (ky y)) where
  irrefl x := by unfold ltOf; rw [cmpKD_lt]; exact decide_eq_false (ltK_irrefl _)
  trans x y z h1 h2 := by
    unfold ltOf at *
    rw [cmpKD_lt] at *
    exact decide_eq_true (ltK_trans (of_decide_eq_true h1) (of_decide_eq_true h2))
  ntrans x y z h1 h2 := by
    unfold ltOf at *
    rw [cmpKD_lt] at *
    refine decide_eq_false fun h => ?_
    have h1' := of_decide_eq_false h1
    have h2' := of_decide_eq_false h2
    unfold ltK at *
    omega

theorem below_grownN {w w' : World} (h : RowKit.Below w.heap.size w w') : w.grownBy w' none := ⟨h.os, h.tape, h.output, h.size, fun k hk _ => h.block k hk⟩

/-- A slice of records behind an iterator. -/
def SeqAt (w : World) (n₀ Bs size : Nat) (T : TypeId) {α : Type} [Inhabited α] (enc : α → List Value) (l : List α) : Prop :=
  ∃ a cap, Blk w Bs #[.slice a l.length cap] T ∧ RecsAt w a size enc l ∧ Bs < n₀ ∧ (∀ x, a = some x → x.block < n₀)
theorem SeqAt.below {w w' : World} {n₀ Bs size : Nat} {T : TypeId} {α : Type} [Inhabited α] {enc : α → List Value} {l : List α} (h : SeqAt w n₀ Bs size T enc l) (hb : RowKit.Below n₀ w w') : SeqAt w' n₀ Bs size T enc l := by
  obtain ⟨a, cap, h1, h2, h3, h4⟩ := h
  exact ⟨a, cap, h1.below hb h3, h2.below hb h4, h3, h4⟩
theorem SeqAt.mono {w : World} {n₀ n₁ Bs size : Nat} {T : TypeId} {α : Type} [Inhabited α] {enc : α → List Value} {l : List α} (h : SeqAt w n₀ Bs size T enc l) (hn : n₀ ≤ n₁) : SeqAt w n₁ Bs size T enc l := by
  obtain ⟨a, cap, h1, h2, h3, h4⟩ := h
  exact ⟨a, cap, h1, h2, by omega, fun x hx => by have := h4 x hx; omega⟩

end Go.Proofs.YtmjgcenhgpkhiaaDoor
