/- TermChecks. -/
import Derived.Test.YtglnnllodoljkaaDoorChkC
import Derived.Test.YtglnnllodoljkaaDoorTermO
import Derived.Test.YtglnnllodoljkaaDoorTermP
import Derived.Test.YtglnnllodoljkaaDoorTermS
import Derived.Test.YtglnnllodoljkaaDoorTermZ
namespace Go.Proofs.YtglnnllodoljkaaDoor
open Go.ChangeShapes Go.WideShapes Go.ChangeAt Go.RowKit
set_option linter.unusedVariables false
set_option linter.unusedSimpArgs false

theorem ofV_three (ns : List Nd) : (ofV ns).1 = 0 ∨ (ofV ns).1 = 1 ∨ (ofV ns).1 = 2 := by
  unfold ofV
  split
  · exact Or.inl rfl
  split
  · exact Or.inl rfl
  split
  · exact Or.inl rfl
  split
  · exact Or.inl rfl
  split
  · exact Or.inl rfl
  exact shp_three _

set_option maxHeartbeats 1000000 in
set_option maxRecDepth 100000 in
theorem ref05chk_ok (a : Option Addr) (cap : Nat) (ns : List Nd) (hl : ns.length ≤ 1000000) (hI : NdsIn ns) (w : World) (hN : NdsAt w a ns) :
    Calls Tryd.prog 20 #[.slice a ns.length cap] w fun e w' => e = .returned (.int .i64 (chkV ns)) ∧ Below w.heap.size w w' := by
  have HO := Lib.hid (ref05of_ok a cap ns hl hI w hN)
  have HC : Hid (chkV ns = if (ofV ns).2 = 0 ∧ (ofV ns).1 ≠ 2 then 14 else (ofV ns).2) := rfl
  have h3 := ofV_three ns
  obtain ⟨C, hC⟩ : ∃ C, chkV ns = C := ⟨_, rfl⟩
  rw [hC] at HC ⊢
  obtain ⟨⟨s, er⟩, hV⟩ : ∃ V, ofV ns = V := ⟨_, rfl⟩
  rw [hV] at HO HC h3
  dsimp only at HO HC h3
  clear hN hI hC hV
  by_cases he : er = 0
  · subst he
    rcases h3 with rfl | rfl | rfl
    · rw [show letV 0 = (⟨#[]⟩ : ByteArray) from rfl] at HO
      have HR : Hid (C = 14) := HC.out
      go_enter Tryd.func20, Tryd.ntmps20
      go_wp2_with fail
      with_reducible refine HO.out.mono ?_
      rintro e w1 ⟨rfl, hb1⟩
      go_wp2_with fail
      go_ret
      exact ⟨by rw [HR.out]; rfl, hb1⟩
    · rw [show letV 1 = (⟨#[111]⟩ : ByteArray) from rfl] at HO
      have HR : Hid (C = 14) := HC.out
      go_enter Tryd.func20, Tryd.ntmps20
      go_wp2_with fail
      with_reducible refine HO.out.mono ?_
      rintro e w1 ⟨rfl, hb1⟩
      go_wp2_with fail
      go_ret
      exact ⟨by rw [HR.out]; rfl, hb1⟩
    · rw [show letV 2 = (⟨#[99]⟩ : ByteArray) from rfl] at HO
      have HR : Hid (C = 0) := HC.out
      go_enter Tryd.func20, Tryd.ntmps20
      go_wp2_with fail
      with_reducible refine HO.out.mono ?_
      rintro e w1 ⟨rfl, hb1⟩
      go_wp2_with fail
      go_ret
      exact ⟨by rw [HR.out]; rfl, hb1⟩
  · have he0 : (er == 0) = false := by simp [he]
    have HR : Hid (C = er) := by rw [show C = _ from HC.out, if_neg (fun h => he h.1)]; exact rfl
    clear he
    go_enter Tryd.func20, Tryd.ntmps20
    go_wp2_with fail
    with_reducible refine HO.out.mono ?_
    rintro e w1 ⟨rfl, hb1⟩
    go_wp2_with fail
    go_ret
    exact ⟨by rw [HR.out]; rfl, hb1⟩

set_option maxHeartbeats 1000000 in
set_option maxRecDepth 100000 in
theorem walk_TermChecks (W : World) (hS : ShapesAt W) (a : Option Addr) (cap : Nat) (ns : List Nd) (hN : NdsAt W a ns) (hI : NdsIn ns) :
    Calls Tryd.prog 4 #[.slice a ns.length cap] W fun e W' => e = .returned (.bool true) ∧ Below W.heap.size W W' := by
  have HS := Lib.hid hS
  have HN := Lib.hid hN
  have HI := Lib.hid hI
  have HA := Lib.hid (fun w hS => awake_ok w hS)
  clear hS hN hI
  by_cases h100 : 100 < ns.length
  · have h1 : 100 < (ns.length : Int) := by omega
    have HAA := Lib.hid (HA.out W HS.out)
    go_enter Tryd.func4, Tryd.ntmps4
    go_wp2_with fail
    with_reducible refine HAA.out.mono ?_
    rintro e w7 ⟨rfl, hb7⟩
    go_wp2_with fail
    go_ret
    exact ⟨rfl, hb7⟩
  have h1 : (ns.length : Int) ≤ 100 := by omega
  have hl : ns.length ≤ 1000000 := by omega
  have HO1 := Lib.hid (of_term_ok a cap ns hl HI.out W HS.out HN.out)
  have HO2 := Lib.hid (fun w hN => ref05of_ok a cap ns hl HI.out w hN)
  have HC1 := Lib.hid (fun w hS hN => check_ok a cap ns hl HI.out w hS hN)
  have HC2 := Lib.hid (fun w hN => ref05chk_ok a cap ns hl HI.out w hN)
  have h3 := ofV_three ns
  obtain ⟨C, hC⟩ : ∃ C, chkV ns = C := ⟨_, rfl⟩
  simp only [hC] at HC1 HC2
  obtain ⟨⟨s, er⟩, hV⟩ : ∃ V, ofV ns = V := ⟨_, rfl⟩
  simp only [hV] at HO1 HO2 h3
  have HN3 := Lib.hid (fun w => sortnum_ok s h3 w)
  clear h100 hC hV h3
  go_enter Tryd.func4, Tryd.ntmps4
  go_wp2_with fail
  with_reducible refine HO1.out.mono ?_
  rintro e w1 ⟨rfl, hb1⟩
  have B1 : Hid (Below W.heap.size W w1) := hb1
  clear hb1 HO1
  go_wp2_with fail
  with_reducible refine (HO2.out w1 (HN.out.after B1.out)).mono ?_
  rintro e w2 ⟨rfl, hb2⟩
  have B2 : Hid (Below W.heap.size W w2) := B1.out.trans (hb2.mono B1.out.size)
  clear hb2 HO2
  go_wp2_with fail
  with_reducible refine (HN3.out w2).mono ?_
  rintro e w3 ⟨rfl, rfl⟩
  go_wp2_with fail
  with_reducible refine (HC1.out _ (HS.out.after B2.out) (HN.out.after B2.out)).mono ?_
  rintro e w4 ⟨rfl, hb4⟩
  have B4 : Hid (Below W.heap.size W w4) := B2.out.trans (hb4.mono B2.out.size)
  clear hb4 HC1
  go_wp2_with fail
  with_reducible refine (HC2.out _ (HN.out.after B4.out)).mono ?_
  rintro e w5 ⟨rfl, hb5⟩
  have B5 : Hid (Below W.heap.size W w5) := B4.out.trans (hb5.mono B4.out.size)
  clear hb5 HC2
  have HAA := Lib.hid (HA.out w5 (HS.out.after B5.out))
  go_wp2_with fail
  with_reducible refine HAA.out.mono ?_
  rintro e w7 ⟨rfl, hb7⟩
  go_wp2_with fail
  go_ret
  exact ⟨rfl, B5.out.trans (hb7.mono B5.out.size)⟩

set_option maxRecDepth 100000 in
theorem open_TermChecks {H : Type} (enc : TypeId × Value → H) (base : Nat) (W : World) (hS : ShapesAt W) (v0 : Value) (d0 : DataW H) (p0 : List MemPlace) (h0 : DataW.Trod enc Tryd.prog W 0 (fun _ => true) true 22 v0 d0 p0) (ok0 : Value.okWide Tryd.prog W .any base 22 v0) :
    Calls Tryd.prog 4 #[v0] W fun e W' => e = .returned (.bool true) ∧ Below W.heap.size W W' := by
  obtain ⟨a, cap, ns, rfl, q1, q2, _⟩ := open_nodes h0 ok0
  exact walk_TermChecks W hS a cap ns q1 q2

end Go.Proofs.YtglnnllodoljkaaDoor
