/- The statement BitempPlays: the walk. -/
import Derived.Test.YtkloijkfaooodaaBitV
namespace Go.Proofs.Ytkloijkfaooodaa
open Go.RowKit Go.Shelf
set_option linter.unusedVariables false
set_option linter.unusedSimpArgs false

def Tr12 (w : World) (e : Ending) (w' : World) : Prop := e = .returned (.bool true) ∧ Below w.heap.size w w'
theorem Both.start {w0 w1 w2 : World} {base p bm : Nat} (hs : StAt w1 base p bm (.slice none 0 0) []) (hb : w1.alloc (.cells #[.slice none 0 0] 48) = w2) (hbase : base ≤ w1.heap.size) : Both w2 base p bm (.slice none 0 0) w1.heap.size (.slice none 0 0) [] := by
  have hb2 : Below w1.heap.size w1 w2 := by rw [← hb]; exact (Below.refl _ _).alloc (Nat.le_refl _) _
  exact ⟨hs.after hb2, by rw [← hb]; exact Blk.new _ _ _, World.ownsRow_nil _ _ _ _, hbase⟩
set_option maxHeartbeats 8000000 in
set_option maxRecDepth 100000 in
theorem plays_law (a : Option Addr) (cap : Nat) (l : List Vs) (hl : l.length ≤ 9223372036854775807) (w : World) (h : VersAt w a l) :
    Calls Try.prog 4 #[.slice a l.length cap] w (Tr12 w) := by
  have HR := Lib.hid h
  clear h
  go_enter Try.func4, Try.ntmps4
  go_wp2_with fail
  with_reducible refine (bnew_ok w.heap.size w (Nat.le_refl _)).mono ?_
  rintro e w1 ⟨p1, bm1, rfl, hS1, hb1, g1, g2⟩
  have HS1 := Lib.hid hS1
  have HB1 := Lib.hid hb1
  have z1 := hb1.size
  clear hS1 hb1
  by_cases h60 : 60 < l.length
  · have h60' : decide (60 < l.length) = true := decide_eq_true h60
    have h61' : decide (60 < (l.length : Int)) = true := decide_eq_true (by omega)
    clear h60
    go_wp2_with fail
    with_reducible refine (awake_ok12 _).mono ?_
    rintro e w3 ⟨rfl, hb3⟩
    go_wp2_with fail
    go_ret
    exact ⟨rfl, HB1.out.trans (hb3.mono HB1.out.size)⟩
  · have h61' : decide (60 < (l.length : Int)) = false := decide_eq_false (by omega)
    have h60' : l.length ≤ 60 := by omega
    clear h60
    obtain ⟨w2, hw2⟩ : ∃ W, w1.alloc (.cells #[.slice none 0 0] 48) = W := ⟨_, rfl⟩
    have HB := Lib.hid (Both.start (w0 := w) HS1.out hw2 z1)
    have hb2 : Below w1.heap.size w1 w2 := by rw [← hw2]; exact (Below.refl _ _).alloc (Nat.le_refl _) _
    have HB2 := Lib.hid (HB1.out.trans (hb2.mono HB1.out.size))
    have HW2 := Lib.hid hw2
    clear hw2 hb2
    go_wp2_with fail
    rw [HW2.out]
    go_loopw [5] (fun i wr => ∃ j : Nat, j ≤ l.length ∧ i = .int .i64 j ∧ Hid (∃ sv rv, Both wr w.heap.size p1 bm1 sv w1.heap.size rv (runV [] (l.take j))) ∧ Hid (Below w.heap.size w wr)) (fun i _ => l.length - (intOf i).toNat)
    case atStart => exact ⟨0, by omega, rfl, ⟨_, _, HB.out⟩, HB2.out⟩
    case round =>
      obtain ⟨j, hj, rfl, HBo, HBr⟩ := hrel
      by_cases hlt : j < l.length
      · have hx := List.getElem?_eq_getElem hlt
        obtain ⟨x, hy⟩ : ∃ x, l[j] = x := ⟨_, rfl⟩
        have hxo : x.Ok := by rw [← hy]; exact HR.out.2 _ (List.getElem_mem _)
        have hT : l.take (j + 1) = l.take j ++ [l[j]] := List.take_succ_eq_append_getElem hlt
        rw [hy] at hx hT
        have HX := Lib.hid hxo
        have HT := Lib.hid hT
        have hRr : RecsAt wr a 7 encS l := RowsAt.after HR.out.1 HBr.out
        obtain ⟨b, o, rfl, _⟩ := hRr (by omega)
        obtain ⟨xs, xc, xk, xd, xn, xm, xp⟩ := x
        have t0 : wr.cell? ⟨b, o + j * 7, none⟩ = some (.int .i64 xs) := RecsAt.cell hRr rfl hlt hx (j := 0) rfl
        have t1 : wr.cell? ⟨b, o + j * 7 + 1, none⟩ = some (.bool xc) := RecsAt.cell hRr rfl hlt hx (j := 1) rfl
        have t2 : wr.cell? ⟨b, o + j * 7 + 2, none⟩ = some (.int .i64 xk) := RecsAt.cell hRr rfl hlt hx (j := 2) rfl
        have t3 : wr.cell? ⟨b, o + j * 7 + 3, none⟩ = some (.int .i64 xd) := RecsAt.cell hRr rfl hlt hx (j := 3) rfl
        have t4 : wr.cell? ⟨b, o + j * 7 + 4, none⟩ = some (.int .i64 xn) := RecsAt.cell hRr rfl hlt hx (j := 4) rfl
        have t5 : wr.cell? ⟨b, o + j * 7 + 5, none⟩ = some (.int .i64 xm) := RecsAt.cell hRr rfl hlt hx (j := 5) rfl
        have t6 : wr.cell? ⟨b, o + j * 7 + 6, none⟩ = some (.int .i64 xp) := RecsAt.cell hRr rfl hlt hx (j := 6) rfl
        clear hx hRr hy hT hxo
        have i1 : (0 : Int) ≤ (j : Int) := by omega
        have i2 : (j : Int) < (l.length : Int) := by omega
        obtain ⟨sv, rv, hbo⟩ := HBo.out
        have hlen : (runV [] (l.take j)).length ≤ 60 := by have := runV_len [] (l.take j); simp at this; omega
        have HTS : Hid (runV [] (l.take (j + 1)) = callV (runV [] (l.take j)) ⟨xs, xc, xk, xd, xn, xm, xp⟩) := by
          show _ = _
          rw [HT.out, runV_snoc]
        obtain ⟨V, hV⟩ : ∃ V, runV [] (l.take j) = V := ⟨_, rfl⟩
        rw [hV] at hbo hlen HTS
        have HBoth := Lib.hid hbo
        have hd : Calls Try.prog 17 #[.pointer (some ⟨p1, 0, none⟩), .pointer (some ⟨w1.heap.size, 0, none⟩), .agg #[.int .i64 xs, .bool xc, .int .i64 xk, .int .i64 xd, .int .i64 xn, .int .i64 xm, .int .i64 xp]] wr (DoesEnd wr w.heap.size p1 bm1 sv w1.heap.size rv V ⟨xs, xc, xk, xd, xn, xm, xp⟩) := does_ok w.heap.size p1 bm1 sv w1.heap.size rv V ⟨xs, xc, xk, xd, xn, xm, xp⟩ HX.out.n HX.out.m wr HBr.out.size hbo (by omega)
        have HD := Lib.hid hd
        clear hV hbo hd
        go_wp2_with fail
        with_reducible refine HD.out.mono ?_
        rintro e w3 ⟨sv2, rv2, rfl, hb3, ht3, _, _⟩
        have HB3 := Lib.hid hb3
        have HB3' := Lib.hid (HBr.out.trans (ht3.below HBr.out.size fun b hb => (HBoth.out.bs_ge b hb).1))
        have hlen3 : (callV V ⟨xs, xc, xk, xd, xn, xm, xp⟩).length ≤ 61 := by have := callE_len (V := V) ⟨xs, xc, xk, xd, xn, xm, xp⟩; omega
        clear hb3 ht3 t0 t1 t2 t3 t4 t5 t6
        go_wp2_with fail
        with_reducible refine (same_ok12 w.heap.size w.heap.size p1 bm1 sv2 w1.heap.size rv2 _ w3 HB3.out.st HB3.out.rf (by omega)).mono ?_
        rintro e w4 ⟨rfl, hb4⟩
        have HE : Hid (∃ sv rv, Both w4 w.heap.size p1 bm1 sv w1.heap.size rv (runV [] (l.take (j + 1)))) := ⟨sv2, rv2, by rw [HTS.out]; exact HB3.out.after hb4⟩
        have HB4 := Lib.hid (HB3'.out.trans (hb4.mono HB3'.out.size))
        clear hb4
        go_wp2_with fail
        go_roundw
        case rel => exact ⟨j + 1, by omega, by go_num, HE, HB4⟩
        case measure => simp [intOf]; omega
      · go_wp2_with fail
        with_reducible refine (awake_ok12 _).mono ?_
        rintro e w3 ⟨rfl, hb3⟩
        go_wp2_with fail
        go_ret
        exact ⟨rfl, HBr.out.trans (hb3.mono HBr.out.size)⟩

set_option maxRecDepth 100000 in
open Go.ChangeShapes Go.WideShapes Go.ChangeAt in
theorem walk_BitempPlays {H : Type} (enc : TypeId × Value → H) (base : Nat) (W : World) (v : Value) (d : DataW H) (p : List MemPlace) (h : DataW.Trod enc Try.prog W 0 (fun _ => true) true 22 v d p) (ok : Value.okWide Try.prog W .any base 22 v) :
    Calls Try.prog 4 #[v] W fun e w' => e = .returned (.bool true) ∧ Below W.heap.size W w' := by
  obtain ⟨a, cap, l, rfl, hl, hc, _, hT⟩ := ops_arg h ok
  exact plays_law a cap l (by omega) W hT

end Go.Proofs.Ytkloijkfaooodaa
