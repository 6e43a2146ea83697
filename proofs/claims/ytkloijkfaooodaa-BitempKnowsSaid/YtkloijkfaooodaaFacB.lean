/- Package facts: New, may, Fix, Choose, Fixing, Choice; the law's Tell, wrong. -/
import Derived.Test.YtkloijkfaooodaaFacA
import Derived.Test.YtkloijkfaooodaaMapW
import Derived.Test.YtkloijkfaooodaaRat
import Derived.Test.YtkloijkfaooodaaEqs
import Derived.Test.YtkloijkfaooodaaHeld
import Derived.StillTailTactics
namespace Go.Proofs.Ytkloijkfaooodaa
open Go.RowKit
set_option linter.unusedVariables false
set_option linter.unusedSimpArgs false


theorem keyP : KeyLike Try.prog 131 OkPl := KeyLike.struct Try.underlying131
  (fun w em v h => by obtain ⟨p, rfl⟩ := h; unfold plV; cases em <;> kernel_rfl)
  (fun w x y hx hy => by
    obtain ⟨p, rfl⟩ := hx
    obtain ⟨q, rfl⟩ := hy
    refine ⟨decide ([p.1, p.2] = [q.1, q.2]), eq_struct w Try.underlying131 (by kernel_rfl) (by kernel_rfl) [p.1, p.2] [q.1, q.2] rfl rfl, ?_⟩
    rw [decide_eq_true_iff]
    unfold plV
    simp)
  (fun v h => by obtain ⟨p, rfl⟩ := h; simp [plV, Instr.sameBits])

/-- Facts in memory: at p, with their two maps. -/
structure FactsAt (w : World) (p ba bc : Nat) (A : List Fx) (C : List Ch) : Prop where
  blk : Blk w p #[.map (some ba), .map (some bc)] 128
  ma : MapAt OkPl w ba (A.map entX)
  mc : MapAt OkPl w bc (C.map entH)
  ra : Rising Fx.ky A
  rc : Rising Ch.ky C
  ne : ba ≠ bc
theorem FactsAt.kept {w w' : World} {p ba bc : Nat} {A : List Fx} {C : List Ch} {row : Option Nat} (h : FactsAt w p ba bc A C) (hg : w.grownBy w' row) (h1 : row ≠ some p) (h2 : row ≠ some ba) (h3 : row ≠ some bc) : FactsAt w' p ba bc A C :=
  ⟨h.blk.grown hg h1, h.ma.kept hg h2, h.mc.kept hg h3, h.ra, h.rc, h.ne⟩
theorem FactsAt.after {w w' : World} {p ba bc : Nat} {A : List Fx} {C : List Ch} (h : FactsAt w p ba bc A C) (hb : Below w.heap.size w w') : FactsAt w' p ba bc A C :=
  h.kept (below_row hb none) (by simp) (by simp) (by simp)
theorem FactsAt.pa {w : World} {p ba bc : Nat} {A : List Fx} {C : List Ch} (h : FactsAt w p ba bc A C) : p ≠ ba ∧ p ≠ bc := by
  constructor
  · rintro rfl
    obtain ⟨es, c, h1, _⟩ := h.ma
    have h2 : w.heap[p]? = _ := h.blk
    rw [h2] at h1
    cases h1
  · rintro rfl
    obtain ⟨es, c, h1, _⟩ := h.mc
    have h2 : w.heap[p]? = _ := h.blk
    rw [h2] at h1
    cases h1

/-- What a list of entries is behind a store. -/
theorem entX_put {A : List Fx} {x : Fx} (h : Rising Fx.ky A) : ((plV x.ky, Value.agg (encX x).toArray) :: lessKey (plV x.ky) (A.map entX)).Perm ((putK Fx.ky A x).map entX) := by
  have hp : (putK Fx.ky A x).Perm (x :: A.filter fun z => decide (z.ky ≠ x.ky)) := by
    refine (List.perm_ext_iff_of_nodup (putK_rising h).nodup ?_).2 fun z => ?_
    · rw [List.nodup_cons]
      exact ⟨by simp, h.nodup.filter _⟩
    · rw [putK_mem h, List.mem_cons, List.mem_filter]
      simp
  have hl : lessKey (plV x.ky) (A.map entX) = (A.filter fun z => decide (z.ky ≠ x.ky)).map entX := by
    unfold lessKey
    rw [List.filter_map]
    congr 1
    refine List.filter_congr fun z _ => ?_
    rw [Bool.eq_iff_iff]
    simp only [Function.comp, decide_eq_true_eq]
    exact ⟨fun h e => h (by show plV z.ky = plV x.ky; rw [e]), fun h e => h (plV_inj e)⟩
  rw [hl]
  exact (hp.map entX).symm
theorem entH_put {A : List Ch} {x : Ch} (h : Rising Ch.ky A) : ((plV x.ky, Value.agg (encH x).toArray) :: lessKey (plV x.ky) (A.map entH)).Perm ((putK Ch.ky A x).map entH) := by
  have hp : (putK Ch.ky A x).Perm (x :: A.filter fun z => decide (z.ky ≠ x.ky)) := by
    refine (List.perm_ext_iff_of_nodup (putK_rising h).nodup ?_).2 fun z => ?_
    · rw [List.nodup_cons]
      exact ⟨by simp, h.nodup.filter _⟩
    · rw [putK_mem h, List.mem_cons, List.mem_filter]
      simp
  have hl : lessKey (plV x.ky) (A.map entH) = (A.filter fun z => decide (z.ky ≠ x.ky)).map entH := by
    unfold lessKey
    rw [List.filter_map]
    congr 1
    refine List.filter_congr fun z _ => ?_
    rw [Bool.eq_iff_iff]
    simp only [Function.comp, decide_eq_true_eq]
    exact ⟨fun h e => h (by show plV z.ky = plV x.ky; rw [e]), fun h e => h (plV_inj e)⟩
  rw [hl]
  exact (hp.map entH).symm

def NewEnd (w : World) (e : Ending) (w' : World) : Prop :=
  ∃ p ba bc, e = .returned (.pointer (some ⟨p, 0, none⟩)) ∧ FactsAt w' p ba bc [] [] ∧ Below w.heap.size w w' ∧ w.heap.size ≤ p ∧ w.heap.size ≤ ba ∧ w.heap.size ≤ bc
theorem new_ok (w : World) : Calls Try.prog 44 #[] w (NewEnd w) := by
  have hmm := @run_makeMap Try.prog
  go_enter Try.func44, Try.ntmps44
  go_wp2
  go_ret
  have b1 : Below w.heap.size w (w.alloc (.map #[] 0)) := (Below.refl _ _).alloc (Nat.le_refl _) _
  have b2 := b1.alloc (by simp) (.map #[] 0)
  have m1 : MapAt OkPl (w.alloc (.map #[] 0)) w.heap.size [] := MapAt.made OkPl w
  have m2 : MapAt OkPl ((w.alloc (.map #[] 0)).alloc (.map #[] 0)) (w.heap.size + 1) [] := by
    have := MapAt.made OkPl (w.alloc (.map #[] 0))
    rwa [World.size_alloc] at this
  refine ⟨w.heap.size + 2, w.heap.size, w.heap.size + 1, rfl, ⟨?_, ?_, ?_, Rising.nil, Rising.nil, by omega⟩, b2.alloc (by simp; omega) _, by omega, Nat.le_refl _, by omega⟩
  · have := Blk.new ((w.alloc (.map #[] 0)).alloc (.map #[] 0)) #[.map (some w.heap.size), .map (some (w.heap.size + 1))] 128
    simpa using this
  · exact (m1.after ((Below.refl _ _).alloc (Nat.le_refl _) _)).after ((Below.refl _ _).alloc (Nat.le_refl _) _)
  · exact m2.after ((Below.refl _ _).alloc (Nat.le_refl _) _)

end Go.Proofs.Ytkloijkfaooodaa
