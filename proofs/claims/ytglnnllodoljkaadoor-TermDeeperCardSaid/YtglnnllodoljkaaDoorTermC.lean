/- Package term: Size, kids. -/
import Derived.Test.YtglnnllodoljkaaDoorTermB
import Derived.RangeFuncNested
import Derived.RangeFuncBound
import Derived.RangeFuncCalls
import Derived.RangeFuncLeaves
import Derived.Shelf.Abstract
import Derived.Shelf.RegionOpen
import Derived.OwnWalkIn
import Derived.TacticsInMore
import Derived.LoopNIn
import Derived.LoopIn
namespace Go.Proofs.YtglnnllodoljkaaDoor
open Go.RowKit Go.Shelf
set_option linter.unusedVariables false
set_option linter.unusedSimpArgs false
attribute [local go_sem] Oper.semAt_some

/-- What Size answers. -/
def sizeV (ns : List Nd) (i : Int) : Int × Int :=
  if i < 0 ∨ (ns.length : Int) ≤ i then (0, 10) else match skip 1 ((opsOf ns).drop i.toNat) with
    | some n => (n, 0)
    | none => (0, 13)

def SizeEnd (ns : List Nd) (i : Int) (w : World) (e : Ending) (w' : World) : Prop :=
  e = .returned (.tuple #[.int .i64 (sizeV ns i).1, .int .i64 (sizeV ns i).2]) ∧ Below w.heap.size w w'
set_option maxHeartbeats 1000000 in
set_option maxRecDepth 100000 in
theorem size_ok (a : Option Addr) (cap : Nat) (ns : List Nd) (hl : ns.length ≤ 1000000) (i : Int) (w : World) (hS : ShapesAt w) (hN : NdsAt w a ns) :
    Calls Tryd.prog 11 #[.slice a ns.length cap, .int .i64 i] w (SizeEnd ns i w) := by
  by_cases h1 : i < 0
  · have hv : Hid (sizeV ns i = (0, 10)) := if_pos (Or.inl h1)
    clear hS hN
    go_enter Tryd.func11, Tryd.ntmps11
    go_wp2_with fail
    go_ret2
    exact ⟨by rw [hv.out]; rfl, Below.refl _ _⟩
  · by_cases h2 : (ns.length : Int) ≤ i
    · have hv : Hid (sizeV ns i = (0, 10)) := if_pos (Or.inr h2)
      clear hS hN
      go_enter Tryd.func11, Tryd.ntmps11
      go_wp2_with fail
      go_ret2
      exact ⟨by rw [hv.out]; rfl, Below.refl _ _⟩
    · obtain ⟨j, rfl⟩ : ∃ j : Nat, i = j := ⟨i.toNat, by omega⟩
      have hv : Hid (sizeV ns j = match skip 1 ((opsOf ns).drop j) with | some n => ((n : Int), 0) | none => (0, 13)) := by
        unfold sizeV
        rw [if_neg (by omega)]
        exact rfl
      have HE := Lib.hid (end_ok a cap ns hl (ns.length - j) j (Nat.le_refl _) (by omega) w hS hN)
      have hj : (j : Int) < (ns.length : Int) := by omega
      have h1' : ¬ (j : Int) < 0 := h1
      clear hS hN h1 h2
      go_enter Tryd.func11, Tryd.ntmps11
      go_wp2_with fail
      with_reducible refine HE.out.mono ?_
      rintro e w1 ⟨rfl, hb1⟩
      cases HQ : skip 1 ((opsOf ns).drop j) with
      | none =>
        rw [endV_none HQ]
        rw [HQ] at hv
        clear HQ HE
        go_wp2_with fail
        go_ret2
        exact ⟨by rw [hv.out]; rfl, hb1⟩
      | some q =>
        rw [endV_some HQ]
        rw [HQ] at hv
        have hq := (skip_le _ _ _ HQ).2
        rw [List.length_drop, opsOf_len] at hq
        clear HQ HE
        obtain ⟨j', hj'⟩ : ∃ j', j + q = j' := ⟨_, rfl⟩
        rw [hj']
        have HJ := Lib.hid hj'
        have hjl' : j' ≤ ns.length := by omega
        have hjj : j ≤ j' := by omega
        have hq' : Hid ((q : Int) = (j' : Int) - (j : Int)) := by show _ = _; omega
        have hwr : IntKind.i64.wrap ((j' : Int) - (j : Int)) = (j' : Int) - (j : Int) := IntWalk.i64_in _ (by omega)
        clear hj' hq
        go_wp2_with fail
        go_ret2
        exact ⟨by rw [hv.out]; dsimp only; rw [hq'.out]; rfl, hb1⟩

end Go.Proofs.YtglnnllodoljkaaDoor
