/- The laws' arguments, opened; == of changes; same. -/
import Derived.Test.YtmjgcenhgpkhiaaDoorAdJ
import Derived.Maps.AppendAt
import Derived.Laws.StructEq
import Derived.OpenShut
import Derived.ShutString
import Derived.ChangeOld
namespace Go.Proofs.YtmjgcenhgpkhiaaDoor
open Go.RowKit Go.Sort Go.Shelf
set_option linter.unusedVariables false
set_option linter.unusedSimpArgs false

def Lv.Ok (x : Lv) : Prop := (Lit.int .i64 x.no).wf = true
open Go.ChangeShapes Go.WideShapes Go.ChangeAt in
theorem lv_cells {H : Type} {enc : TypeId × Value → H} {base : Nat} {W : World} {spare : Nat → Bool} {held : Bool} {cs : List Value} (hl : CellsAre (LeafOk enc Tryd.prog W base spare held) [3, 3, 3, 3] cs) : ∃ x : Lv, cs = encL x ∧ Lv.Ok x := by
  (obtain ⟨c0, cs0, rfl, h0, hl⟩ := hl.cons; obtain ⟨c1, cs1, rfl, h1, hl⟩ := hl.cons; obtain ⟨c2, cs2, rfl, h2, hl⟩ := hl.cons; obtain ⟨c3, cs3, rfl, h3, hl⟩ := hl.cons; obtain rfl := hl.nil; obtain ⟨a, rfl, f0⟩ := h0.int Tryd.underlying3; obtain ⟨d, rfl, f1⟩ := h1.int Tryd.underlying3; obtain ⟨n, rfl, f2⟩ := h2.int Tryd.underlying3; obtain ⟨m, rfl, f3⟩ := h3.int Tryd.underlying3; exact ⟨⟨a, d, n, m⟩, rfl, f0⟩)
set_option maxRecDepth 100000 in
open Go.ChangeShapes Go.WideShapes Go.ChangeAt in
theorem lvs_arg {H : Type} {enc : TypeId × Value → H} {base : Nat} {W : World} {v : Value} {d : DataW H} {p : List MemPlace} (h : DataW.Trod enc Tryd.prog W 0 (fun _ => true) true 44 v d p) (ok : Value.okWide Tryd.prog W .any base 44 v) :
    ∃ (a : Option Addr) (cap : Nat) (l : List Lv), v = .slice a l.length cap ∧ SlG W 4 encL a cap l ∧ ∀ x ∈ l, Lv.Ok x := by
  obtain ⟨a, len, cap, rfl⟩ := okWide_slice Tryd.underlying44 ok
  have hl := arg_leaves (d := 2) (ls := [44]) (by kernel_rfl) h
  obtain ⟨c0, cs0, e0, h0, hl⟩ := hl.cons
  obtain rfl := hl.nil
  simp only [Value.cells, List.cons.injEq, and_true] at e0
  subst e0
  have hf : flat Tryd.prog 6 62 = some [3, 3, 3, 3] := by kernel_rfl
  rcases h0.slice Tryd.underlying44 hf with e1 | ⟨x, len', cap', e1, g1, g2, hE⟩
  · cases e1
    exact ⟨none, 0, [], rfl, ⟨RowsAt.nil _ _ _ _, Nat.le_refl _, Nat.zero_le _, fun _ => ⟨rfl, rfl⟩, .inl rfl⟩, fun x hx => by cases hx⟩
  · cases e1
    obtain ⟨f, hf1, hf2⟩ := elems_rows hE (by simp)
    obtain ⟨g, hg⟩ : ∃ g : Nat → Lv, ∀ i, i < len → f i = encL (g i) ∧ Lv.Ok (g i) := by
      have : ∀ i, ∃ z : Lv, i < len → f i = encL z ∧ Lv.Ok z := fun i => by
        by_cases hi : i < len
        · obtain ⟨z, e, hz⟩ := lv_cells (hf1 i hi)
          exact ⟨z, fun _ => ⟨e, hz⟩⟩
        · exact ⟨default, fun h => absurd h hi⟩
      exact ⟨fun i => (this i).choose, fun i => (this i).choose_spec⟩
    have hlen : ((List.range len).map g).length = len := by simp
    have hR : RecsAt W (some x) 4 encL ((List.range len).map g) := by
      show RowsAt _ _ _ _ _
      rw [hlen]
      refine hf2.congr fun i hi => ?_
      rw [(hg i hi).1]
      unfold recF
      rw [List.getD_eq_getElem?_getD, List.getElem?_eq_getElem (by simpa using hi)]
      simp
    refine ⟨some x, cap, (List.range len).map g, by rw [hlen], ⟨hR, by rw [hlen]; exact g1, g2, (fun e => by cases e), ?_⟩, fun y hy => ?_⟩
    · by_cases h0 : len = 0
      · left; subst h0; rfl
      · right
        obtain ⟨b, o, e, hb⟩ := RowsAt.lt hR (by rw [hlen]; omega) (by unfold recF; unfold encL; simp)
        exact ⟨b, o, e, hb⟩
    · obtain ⟨i, hi, rfl⟩ := List.mem_map.1 hy
      exact (hg i (List.mem_range.1 hi)).2
open Go.ChangeShapes Go.WideShapes Go.ChangeAt in
theorem fl_cells {H : Type} {enc : TypeId × Value → H} {base : Nat} {W : World} {spare : Nat → Bool} {held : Bool} {cs : List Value} (hl : CellsAre (LeafOk enc Tryd.prog W base spare held) [3, 3, 3] cs) : ∃ x : Fl, cs = encW x ∧ (fun _ => True) x := by
  (obtain ⟨c0, cs0, rfl, h0, hl⟩ := hl.cons; obtain ⟨c1, cs1, rfl, h1, hl⟩ := hl.cons; obtain ⟨c2, cs2, rfl, h2, hl⟩ := hl.cons; obtain rfl := hl.nil; obtain ⟨a, rfl, f0⟩ := h0.int Tryd.underlying3; obtain ⟨d, rfl, f1⟩ := h1.int Tryd.underlying3; obtain ⟨n, rfl, f2⟩ := h2.int Tryd.underlying3; exact ⟨⟨a, d, n⟩, rfl, trivial⟩)
set_option maxRecDepth 100000 in
open Go.ChangeShapes Go.WideShapes Go.ChangeAt in
theorem fls_arg {H : Type} {enc : TypeId × Value → H} {base : Nat} {W : World} {v : Value} {d : DataW H} {p : List MemPlace} (h : DataW.Trod enc Tryd.prog W 0 (fun _ => true) true 47 v d p) (ok : Value.okWide Tryd.prog W .any base 47 v) :
    ∃ (a : Option Addr) (cap : Nat) (l : List Fl), v = .slice a l.length cap ∧ SlG W 3 encW a cap l ∧ ∀ x ∈ l, (fun _ => True) x := by
  obtain ⟨a, len, cap, rfl⟩ := okWide_slice Tryd.underlying47 ok
  have hl := arg_leaves (d := 2) (ls := [47]) (by kernel_rfl) h
  obtain ⟨c0, cs0, e0, h0, hl⟩ := hl.cons
  obtain rfl := hl.nil
  simp only [Value.cells, List.cons.injEq, and_true] at e0
  subst e0
  have hf : flat Tryd.prog 6 58 = some [3, 3, 3] := by kernel_rfl
  rcases h0.slice Tryd.underlying47 hf with e1 | ⟨x, len', cap', e1, g1, g2, hE⟩
  · cases e1
    exact ⟨none, 0, [], rfl, ⟨RowsAt.nil _ _ _ _, Nat.le_refl _, Nat.zero_le _, fun _ => ⟨rfl, rfl⟩, .inl rfl⟩, fun x hx => by cases hx⟩
  · cases e1
    obtain ⟨f, hf1, hf2⟩ := elems_rows hE (by simp)
    obtain ⟨g, hg⟩ : ∃ g : Nat → Fl, ∀ i, i < len → f i = encW (g i) ∧ (fun _ => True) (g i) := by
      have : ∀ i, ∃ z : Fl, i < len → f i = encW z ∧ (fun _ => True) z := fun i => by
        by_cases hi : i < len
        · obtain ⟨z, e, hz⟩ := fl_cells (hf1 i hi)
          exact ⟨z, fun _ => ⟨e, hz⟩⟩
        · exact ⟨default, fun h => absurd h hi⟩
      exact ⟨fun i => (this i).choose, fun i => (this i).choose_spec⟩
    have hlen : ((List.range len).map g).length = len := by simp
    have hR : RecsAt W (some x) 3 encW ((List.range len).map g) := by
      show RowsAt _ _ _ _ _
      rw [hlen]
      refine hf2.congr fun i hi => ?_
      rw [(hg i hi).1]
      unfold recF
      rw [List.getD_eq_getElem?_getD, List.getElem?_eq_getElem (by simpa using hi)]
      simp
    refine ⟨some x, cap, (List.range len).map g, by rw [hlen], ⟨hR, by rw [hlen]; exact g1, g2, (fun e => by cases e), ?_⟩, fun y hy => ?_⟩
    · by_cases h0 : len = 0
      · left; subst h0; rfl
      · right
        obtain ⟨b, o, e, hb⟩ := RowsAt.lt hR (by rw [hlen]; omega) (by unfold recF; unfold encW; simp)
        exact ⟨b, o, e, hb⟩
    · obtain ⟨i, hi, rfl⟩ := List.mem_map.1 hy
      exact (hg i (List.mem_range.1 hi)).2

theorem cg_self (n d c o w : Int) (W : World) : (binOp .neq 39 (.agg #[.int .i64 n, .int .i64 d, .int .i64 c, .int .i64 o, .int .i64 w]) (.agg #[.int .i64 n, .int .i64 d, .int .i64 c, .int .i64 o, .int .i64 w])).run Tryd.prog W = .ok (.bool false) W := by
  have h := eq_struct W Tryd.underlying39 (by kernel_rfl) (by kernel_rfl) [n, d, c, o, w] [n, d, c, o, w] rfl rfl
  rw [decide_eq_true rfl] at h
  have h' : (Op.equalIn 10000 39 (.agg #[.int .i64 n, .int .i64 d, .int .i64 c, .int .i64 o, .int .i64 w]) (.agg #[.int .i64 n, .int .i64 d, .int .i64 c, .int .i64 o, .int .i64 w])).run Tryd.prog W = .ok true W := h
  rw [run_neq_struct, h']
  rfl
def TrueEnd16 (w : World) (e : Ending) (w' : World) : Prop := e = .returned (.bool true) ∧ Below w.heap.size w w'
set_option maxHeartbeats 4000000 in
set_option maxRecDepth 100000 in
theorem same_ok (a a' : Option Addr) (cap cap' : Nat) (S : List Cg) (w : World) (h : RecsAt w a 5 encG S) (h' : RecsAt w a' 5 encG S) (hl : S.length ≤ 1000) :
    Calls Tryd.prog 20 #[.slice a S.length cap, .slice a' S.length cap'] w (TrueEnd16 w) := by
  have H := Lib.hid h
  have H' := Lib.hid h'
  clear h h'
  go_enter Tryd.func20, Tryd.ntmps20
  go_wp2_with fail
  go_loopw [5] (fun i wr => ∃ j : Nat, j ≤ S.length ∧ i = .int .i64 j ∧ Hid (Below w.heap.size w wr)) (fun i _ => S.length - (intOf i).toNat)
  case atStart => exact ⟨0, by omega, rfl, Below.refl _ _⟩
  case round =>
    obtain ⟨j, hj, rfl, HBq⟩ := hrel
    by_cases hlt : j < S.length
    · have hx := List.getElem?_eq_getElem hlt
      obtain ⟨x, hy⟩ : ∃ x, S[j] = x := ⟨_, rfl⟩
      rw [hy] at hx
      have hR1 := RowsAt.after H.out HBq.out
      have hR2 := RowsAt.after H'.out HBq.out
      obtain ⟨b, o, rfl, _⟩ := hR1 (by omega)
      obtain ⟨b', o', rfl, _⟩ := hR2 (by omega)
      obtain ⟨xn, xd, xc, xo, xw⟩ := x
      have p0 : wr.cell? ⟨b, o + j * 5, none⟩ = some (.int .i64 xn) := RecsAt.cell hR1 rfl hlt hx (j := 0) rfl
      have p1 : wr.cell? ⟨b, o + j * 5 + 1, none⟩ = some (.int .i64 xd) := RecsAt.cell hR1 rfl hlt hx (j := 1) rfl
      have p2 : wr.cell? ⟨b, o + j * 5 + 2, none⟩ = some (.int .i64 xc) := RecsAt.cell hR1 rfl hlt hx (j := 2) rfl
      have p3 : wr.cell? ⟨b, o + j * 5 + 3, none⟩ = some (.int .i64 xo) := RecsAt.cell hR1 rfl hlt hx (j := 3) rfl
      have p4 : wr.cell? ⟨b, o + j * 5 + 4, none⟩ = some (.int .i64 xw) := RecsAt.cell hR1 rfl hlt hx (j := 4) rfl
      have q0 : wr.cell? ⟨b', o' + j * 5, none⟩ = some (.int .i64 xn) := RecsAt.cell hR2 rfl hlt hx (j := 0) rfl
      have q1 : wr.cell? ⟨b', o' + j * 5 + 1, none⟩ = some (.int .i64 xd) := RecsAt.cell hR2 rfl hlt hx (j := 1) rfl
      have q2 : wr.cell? ⟨b', o' + j * 5 + 2, none⟩ = some (.int .i64 xc) := RecsAt.cell hR2 rfl hlt hx (j := 2) rfl
      have q3 : wr.cell? ⟨b', o' + j * 5 + 3, none⟩ = some (.int .i64 xo) := RecsAt.cell hR2 rfl hlt hx (j := 3) rfl
      have q4 : wr.cell? ⟨b', o' + j * 5 + 4, none⟩ = some (.int .i64 xw) := RecsAt.cell hR2 rfl hlt hx (j := 4) rfl
      have heq := fun w => cg_self xn xd xc xo xw w
      have i1 : (0 : Int) ≤ (j : Int) := by omega
      have i2 : (j : Int) < (S.length : Int) := by omega
      clear hx hy hR1 hR2
      go_wp2_with (go_quiet (fail))
      go_roundw
      case rel => exact ⟨j + 1, by omega, by go_num, HBq.out.trans (below_draws _ _)⟩
      case measure => simp [intOf]; omega
    · obtain rfl : j = S.length := by omega
      go_wp2_with fail
      go_ret
      exact ⟨rfl, HBq.out⟩

end Go.Proofs.YtmjgcenhgpkhiaaDoor
