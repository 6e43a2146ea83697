/- What the laid table of rules gives the walks; and that the program's own start meets it. -/
import Derived.Test.YtmjgcenhgpkhiaaDoorEntC
import Derived.Test.YtmjgcenhgpkhiaaDoorTie
import Derived.LaidMore
import Derived.LaidHandle
import Derived.Stop.Joined
import Derived.OpenShut
namespace Go.Proofs.YtmjgcenhgpkhiaaDoor
open Go.ChangeShapes Go.WideShapes Go.ChangeAt Go.RowKit
set_option linter.unusedVariables false
set_option maxRecDepth 100000

theorem gRules : Tryd.prog.globalNamed "chattel/entry.rules" = some 0 := by kernel_rfl
theorem tRules : (Tryd.prog.globals[0]?).map (·.type) = some 96 := by kernel_rfl

theorem rule_of {W : World} {sp : Nat → Bool} {fuel : Nat} {cs : List Value} {b : UInt8} {r : List UInt8} {n : Int} {q : List MemPlace} {f0 : FuncId}
    (hone : ((List.range Tryd.prog.funcs.size).filter fun f => (Tryd.prog.funcs[f]?).any (·.name.toUTF8.data.toList == b :: r)) = [f0])
    (h : DataW.trod (funcToken Tryd.prog) Tryd.prog W 0 sp true fuel 95 cs = some (.agg [.held (b :: r), .lit (.int .i64 n)], q)) :
    cs = [.func (.func f0) #[] #[], .int .i64 n] := by
  obtain ⟨xs, m, _, hx, hlen, hxl, hf⟩ := DataW.trod_struct Tryd.underlying95 h
  simp only [Prod.mk.injEq, DataW.agg.injEq] at hx
  rw [show Tryd.prog.cellsOf 95 = 2 by kernel_rfl] at hlen
  obtain ⟨c0, c1, rfl⟩ : ∃ c0 c1, cs = [c0, c1] := by
    match cs, hlen with
    | [c0, c1], _ => exact ⟨c0, c1, rfl⟩
  obtain ⟨x0, x1, rfl⟩ : ∃ x0 x1, xs = [x0, x1] := by
    have := hx.1
    match xs, this with
    | [x0, x1], _ => exact ⟨x0, x1, rfl⟩
    | [], h => simp at h
    | [_], h => simp at h
    | _ :: _ :: _ :: _, h => simp at h
  obtain ⟨d0, p0⟩ := x0
  obtain ⟨d1, p1⟩ := x1
  simp only [List.map_cons, List.map_nil, List.cons.injEq, and_true] at hx
  obtain ⟨⟨rfl, rfl⟩, _⟩ := hx
  have h0 := hf 0 _ rfl
  have h1 := hf 1 _ rfl
  have g0 : DataW.trod (funcToken Tryd.prog) Tryd.prog W 0 sp true m 29 [c0] = some (.held (b :: r), p0) := by
    rw [← show ([((DataW.held (b :: r) : DataW (List UInt8)), p0), (DataW.lit (.int .i64 n), p1)])[0]? = some (.held (b :: r), p0) from rfl, ← h0]
    rw [show Tryd.prog.cellsOf (Field.type _) = 1 from by kernel_rfl]
    rfl
  have g1 : DataW.trod (funcToken Tryd.prog) Tryd.prog W 0 sp true m 32 [c1] = some (.lit (.int .i64 n), p1) := by
    rw [← show ([((DataW.held (b :: r) : DataW (List UInt8)), p0), (DataW.lit (.int .i64 n), p1)])[1]? = some (.lit (.int .i64 n), p1) from rfl, ← h1]
    rw [show Tryd.prog.cellsOf (Field.type _) = 1 from by kernel_rfl]
    rfl
  obtain rfl := func_of_trod (f0 := f0) Tryd.underlying29 hone g0
  obtain ⟨k, hk, hk2, _⟩ := DataW.trod_int Tryd.underlying32 g1
  simp only [List.cons.injEq, and_true] at hk
  subst hk
  simp only [Prod.mk.injEq, DataW.lit.injEq, Lit.int.injEq, true_and] at hk2
  rw [hk2.1]

theorem of_laid {W : World} (h : laidMetH Tryd.prog [("chattel/entry.rules", Rows.laid_chattel_entry_rules)] W) : RulesAt W := by
  obtain ⟨g, t, cs, fuel, p, hg, ht, hv, hd⟩ := h.funcs (List.mem_singleton.2 rfl)
  obtain rfl := Option.some.inj (gRules.symm.trans hg)
  obtain rfl := Option.some.inj (tRules.symm.trans ht)
  have hd' : DataW.trod (funcToken Tryd.prog) Tryd.prog W 0 (fun _ => true) true fuel 96 cs.toList = some (.agg [.agg [.held [40, 99, 104, 97, 116, 116, 101, 108, 47, 101, 110, 116, 114, 121, 46, 69, 110, 116, 114, 121, 41, 46, 114, 97, 110, 103, 101, 115], .lit (.int .i64 10)], .agg [.held [40, 99, 104, 97, 116, 116, 101, 108, 47, 101, 110, 116, 114, 121, 46, 69, 110, 116, 114, 121, 41, 46, 108, 105, 110, 101, 115], .lit (.int .i64 1)], .agg [.held [40, 99, 104, 97, 116, 116, 101, 108, 47, 101, 110, 116, 114, 121, 46, 69, 110, 116, 114, 121, 41, 46, 115, 111, 109, 101], .lit (.int .i64 12)], .agg [.held [40, 99, 104, 97, 116, 116, 101, 108, 47, 101, 110, 116, 114, 121, 46, 69, 110, 116, 114, 121, 41, 46, 102, 105, 116, 115], .lit (.int .i64 11)], .agg [.held [40, 99, 104, 97, 116, 116, 101, 108, 47, 101, 110, 116, 114, 121, 46, 69, 110, 116, 114, 121, 41, 46, 101, 118, 101, 110], .lit (.int .i64 20)]], p) := hd
  obtain ⟨xs, m, _, hx, hlen, hxl, hel⟩ := DataW.trod_array Tryd.underlying96 hd'
  simp only [Prod.mk.injEq, DataW.agg.injEq] at hx
  rw [show Tryd.prog.cellsOf 96 = 10 by kernel_rfl] at hlen
  rw [show Tryd.prog.cellsOf 95 = 2 by kernel_rfl] at hel
  have hget : ∀ (i : Nat) (d : DataW (List UInt8)), ([.agg [.held [40, 99, 104, 97, 116, 116, 101, 108, 47, 101, 110, 116, 114, 121, 46, 69, 110, 116, 114, 121, 41, 46, 114, 97, 110, 103, 101, 115], .lit (.int .i64 10)], .agg [.held [40, 99, 104, 97, 116, 116, 101, 108, 47, 101, 110, 116, 114, 121, 46, 69, 110, 116, 114, 121, 41, 46, 108, 105, 110, 101, 115], .lit (.int .i64 1)], .agg [.held [40, 99, 104, 97, 116, 116, 101, 108, 47, 101, 110, 116, 114, 121, 46, 69, 110, 116, 114, 121, 41, 46, 115, 111, 109, 101], .lit (.int .i64 12)], .agg [.held [40, 99, 104, 97, 116, 116, 101, 108, 47, 101, 110, 116, 114, 121, 46, 69, 110, 116, 114, 121, 41, 46, 102, 105, 116, 115], .lit (.int .i64 11)], .agg [.held [40, 99, 104, 97, 116, 116, 101, 108, 47, 101, 110, 116, 114, 121, 46, 69, 110, 116, 114, 121, 41, 46, 101, 118, 101, 110], .lit (.int .i64 20)]] : List (DataW (List UInt8)))[i]? = some d → i < 5 → ∃ q, DataW.trod (funcToken Tryd.prog) Tryd.prog W 0 (fun _ => true) true m 95 ((cs.toList.drop (i * 2)).take 2) = some (d, q) := fun i d hi h5 => by
    rw [hx.1, List.getElem?_map] at hi
    obtain ⟨x, hx1, hx2⟩ := Option.map_eq_some_iff.1 hi
    exact ⟨x.2, by rw [hel i h5, hx1, ← hx2]⟩
  obtain ⟨q0, e0⟩ := hget 0 _ rfl (by omega)
  have r0 := rule_of (f0 := 113) (by kernel_rfl) e0
  obtain ⟨q1, e1⟩ := hget 1 _ rfl (by omega)
  have r1 := rule_of (f0 := 114) (by kernel_rfl) e1
  obtain ⟨q2, e2⟩ := hget 2 _ rfl (by omega)
  have r2 := rule_of (f0 := 115) (by kernel_rfl) e2
  obtain ⟨q3, e3⟩ := hget 3 _ rfl (by omega)
  have r3 := rule_of (f0 := 116) (by kernel_rfl) e3
  obtain ⟨q4, e4⟩ := hget 4 _ rfl (by omega)
  have r4 := rule_of (f0 := 109) (by kernel_rfl) e4
  have hc := World.var?_cell hg hv
  have hd2 : ∀ (i : Nat) (c0 c1 : Value), (cs.toList.drop (i * 2)).take 2 = [c0, c1] → cs[i * 2]? = some c0 ∧ cs[i * 2 + 1]? = some c1 := fun i c0 c1 h => by
    have a0 : ((cs.toList.drop (i * 2)).take 2)[0]? = some c0 := by rw [h]; rfl
    have a1 : ((cs.toList.drop (i * 2)).take 2)[1]? = some c1 := by rw [h]; rfl
    rw [List.getElem?_take, if_pos (by omega), List.getElem?_drop] at a0 a1
    exact ⟨by simpa using a0, by simpa using a1⟩
  exact ⟨(hc 0).trans (hd2 0 _ _ r0).1, (hc 1).trans (hd2 0 _ _ r0).2, (hc 2).trans (hd2 1 _ _ r1).1, (hc 3).trans (hd2 1 _ _ r1).2, (hc 4).trans (hd2 2 _ _ r2).1, (hc 5).trans (hd2 2 _ _ r2).2, (hc 6).trans (hd2 3 _ _ r3).1, (hc 7).trans (hd2 3 _ _ r3).2, (hc 8).trans (hd2 4 _ _ r4).1, (hc 9).trans (hd2 4 _ _ r4).2⟩

/-- The program's own start meets the condition. -/
theorem door_met (os : Os) (args : Array Value) : laidMetH Tryd.prog [("chattel/entry.rules", Rows.laid_chattel_entry_rules)] ((World.doorLaid Tryd.prog 600 os).forCall (fun _ _ => 0) ⟨#[], args, []⟩).memory :=
  laidMetH_of_parts3 (fuel := 8) (laidMet_of_run' 8 (by kernel_rfl) (by kernel_rfl)) (by kernel_rfl) (by kernel_rfl)
end Go.Proofs.YtmjgcenhgpkhiaaDoor
