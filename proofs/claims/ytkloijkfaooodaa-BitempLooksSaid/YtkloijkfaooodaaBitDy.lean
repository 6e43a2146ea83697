/- Package bitemp: slices.SortFunc of versions by their days; maps.Clone of places. -/
import Derived.Test.YtkloijkfaooodaaBitJ
import Derived.Test.YtkloijkfaooodaaBitSh
import Derived.Test.YtkloijkfaooodaaFacEa
namespace Go.Proofs.Ytkloijkfaooodaa
open Go.RowKit Go.Sort Go.Shelf
set_option linter.unusedVariables false
set_option linter.unusedSimpArgs false

theorem cmpI_lt (a b : Int) : decide (cmpI a b < 0) = decide (a < b) := by
  rw [Bool.eq_iff_iff, decide_eq_true_iff, decide_eq_true_iff]
  unfold cmpI
  split <;> (try split) <;> omega
theorem swoD : SWO (ltOf fun x y : Vs => cmpI x.d y.d) where
  irrefl x := by unfold ltOf; rw [cmpI_lt]; exact decide_eq_false (by omega)
  trans x y z h1 h2 := by
    unfold ltOf at *
    rw [cmpI_lt] at *
    exact decide_eq_true (by have := of_decide_eq_true h1; have := of_decide_eq_true h2; omega)
  ntrans x y z h1 h2 := by
    unfold ltOf at *
    rw [cmpI_lt] at *
    refine decide_eq_false fun h => ?_
    have h1' := of_decide_eq_false h1
    have h2' := of_decide_eq_false h2
    omega
set_option maxHeartbeats 1000000 in
theorem cloD_ok (x y : Vs) (W : World) : Calls Try.prog 49 #[.agg (encS x).toArray, .agg (encS y).toArray] W fun e w' => e = .returned (.int .i64 (cmpI x.d y.d)) ∧ ∃ q os', w' = grow (W.drewN q) os' := by
  obtain ⟨xs, xc, xk, xd, xn, xm, xp⟩ := x
  obtain ⟨ys, yc, yk, yd, yn, ym, yp⟩ := y
  show Calls _ _ #[.agg #[.int .i64 xs, .bool xc, .int .i64 xk, .int .i64 xd, .int .i64 xn, .int .i64 xm, .int .i64 xp], .agg #[.int .i64 ys, .bool yc, .int .i64 yk, .int .i64 yd, .int .i64 yn, .int .i64 ym, .int .i64 yp]] _ fun e w' => e = .returned (.int .i64 (cmpI xd yd)) ∧ _
  have H1 := Lib.hid (fun x y W => cmpi_ok x y W)
  obtain ⟨V, hV⟩ : ∃ V, cmpI xd yd = V := ⟨_, rfl⟩
  have HV := Lib.hid hV
  rw [hV]
  clear hV
  have a0 : ((W.alloc (.cells #[.int .i64 xs, .bool xc, .int .i64 xk, .int .i64 xd, .int .i64 xn, .int .i64 xm, .int .i64 xp] 26)).alloc (.cells #[.int .i64 ys, .bool yc, .int .i64 yk, .int .i64 yd, .int .i64 yn, .int .i64 ym, .int .i64 yp] 26)).cell? ⟨W.heap.size, 3, none⟩ = some (.int .i64 xd) := ((Blk.new W #[.int .i64 xs, .bool xc, .int .i64 xk, .int .i64 xd, .int .i64 xn, .int .i64 xm, .int .i64 xp] 26).alloc _).cell 3 rfl
  go_enter Try.func49, Try.ntmps49
  go_wp2_with fail
  with_reducible refine (H1.out _ _ _).mono ?_
  rintro e w1 ⟨rfl, rfl⟩
  rw [HV.out]
  go_wp2_with fail
  go_ret
  exact ⟨rfl, 0, _, by rw [alloc_eq_grow, alloc_eq_grow, grow_grow]; rfl⟩

theorem sortV_ok (g cap : Nat) (l : List Vs) (w : World) (hH : HoldsK encS 7 w g 0 l.toArray) (hg : g < w.heap.size) (hl : l.length ≤ 2513169434910) :
    Calls Try.prog 48 #[.slice (some ⟨g, 0, none⟩) l.length cap, .func (.func 49) #[] #[]] w fun e w' =>
      e = .returned (.tuple #[]) ∧ ∃ l', l'.Perm l ∧ l'.Pairwise (fun a b => ¬ b.d < a.d) ∧ RecsAt w' (some ⟨g, 0, none⟩) 7 encS l' ∧ w.grownBy w' (some g) := by
  have eg : ∀ args w, (callFunc 49 args).run Try.prog w = .ok (.enter 49 args) w := enters_of Try.func49 (by kernel_rfl) rfl
  have hc : CmpLays Try.prog 49 #[] encS 7 (fun x y => cmpI x.d y.d) g 0 l.toArray.size w := fun _ _ _ _ x y => cloD_ok x y _
  have hcon := AnyQ.slices_SortFunc Try.sortV 7 Try.isAgg26 Try.sizeOf26 encS (fun _ => rfl) encS_one (fun x y => cmpI x.d y.d) swoD 49 #[] g 0 cap l.toArray w eg hc hH hg (by simp; omega)
  have hcon' : Calls Try.prog 48 #[.slice (some ⟨g, 0, none⟩) l.toArray.size cap, .func (.func 49) #[] #[]] w _ := hcon
  rw [List.size_toArray] at hcon'
  refine hcon'.mono ?_
  rintro e w' ⟨rfl, d', n, os, hp, hs, rfl⟩
  rw [← List.size_toArray] at hp hs
  have hsz : d'.size = l.toArray.size := hp.1
  refine ⟨rfl, d'.toList, by simpa using perm_in hp, ?_, recs_holds (fun _ => rfl) (holdsK_sortWorldK_c _ _ _ _ _ _ _ _ _ hH hg hsz), grown_sortedK⟩
  rw [← hsz] at hs
  refine List.Pairwise.imp (fun {a b} h => ?_) (sorted_in hs)
  unfold ltOf at h
  rw [cmpI_lt] at h
  exact of_decide_eq_false h
theorem sortanyV (base : Nat) (v : Value) (l : List Vs) (w : World) (ho : w.ownsRow base 26 7 v l.length (cellsL encS l)) (hl : l.length ≤ 2513169434910) :
    Calls Try.prog 48 #[v, .func (.func 49) #[] #[]] w fun e w' =>
      e = .returned (.tuple #[]) ∧ ∃ a cap l', v = .slice a l.length cap ∧ l'.Perm l ∧ l'.Pairwise (fun a b => ¬ b.d < a.d) ∧ RecsAt w' a 7 encS l' ∧ RowKit.Below base w w' := by
  by_cases h0 : 0 < l.length
  · obtain ⟨g, cap, rfl, hb, hg, _, _, hH⟩ := holds_own (enc := encS) (size := 7) (fun _ => rfl) ho rfl h0
    refine (sortV_ok g cap l w hH hg hl).mono ?_
    rintro e w' ⟨rfl, l', h1, h2, h3, h4⟩
    exact ⟨rfl, _, cap, l', rfl, h1, h2, h3, (grown_below h4 hg).mono hb⟩
  · have hn : l.length = 0 := by omega
    obtain ⟨a, cap, rfl, _⟩ := owned_recs (enc := encS) (size := 7) (fun _ => rfl) ho rfl
    obtain rfl := List.length_eq_zero_iff.1 hn
    have hcon : Calls Try.prog 48 _ _ _ := AnyF.slices_SortFunc_none Try.sortV a cap (.func (.func 49) #[] #[]) w
    refine hcon.mono ?_
    rintro e w' ⟨rfl, rfl⟩
    exact ⟨rfl, a, cap, [], rfl, List.Perm.refl _, List.Pairwise.nil, RowsAt.nil _ _ _ _, RowKit.Below.refl _ _⟩

def CloneMEnd (W : World) (M : List (Value × Value)) (e : Ending) (w' : World) : Prop :=
  ∃ b, e = .returned (.map (some b)) ∧ MapAt OkPk w' b M ∧ RowKit.Below W.heap.size W w' ∧ W.heap.size ≤ b
theorem cloneP_ok (B : Nat) (M : List (Value × Value)) (w : World) (h : MapAt OkPk w B M) :
    Calls Try.prog 54 #[.map (some B)] w (CloneMEnd w M) := by
  obtain ⟨es, clock, hb, he⟩ := h
  have hcon : Calls Try.prog 54 _ _ _ := Go.Proofs.AnyW.maps_Clone Try.cloneP B es clock w hb
  refine hcon.mono ?_
  rintro e w' ⟨rfl, rfl⟩
  exact ⟨w.heap.size, rfl, ⟨es, clock, (MapKept.heap_alloc w _).1, he⟩, (RowKit.Below.refl _ _).alloc (Nat.le_refl _) _, Nat.le_refl _⟩

end Go.Proofs.Ytkloijkfaooodaa
