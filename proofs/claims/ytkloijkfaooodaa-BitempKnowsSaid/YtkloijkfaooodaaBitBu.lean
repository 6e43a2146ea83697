/- The law's built; how great an argument may be. -/
import Derived.Test.YtkloijkfaooodaaBitW
import Derived.SizedLaws
namespace Go.Proofs.Ytkloijkfaooodaa
open Go.RowKit Go.Shelf
set_option linter.unusedVariables false
set_option linter.unusedSimpArgs false

section
open Go.ChangeShapes Go.WideShapes Go.ChangeAt
variable {H : Type} {enc : TypeId × Value → H} {W : World}
theorem slice_reach {P : Program} {spare : Nat → Bool} {held : Bool} {base : Nat} {T e : TypeId} {a : Option Addr} {len cap : Nat} {d : DataW H} {p : List MemPlace} (hu : P.underlying T = some (.slice e)) (h : DataW.Trod enc P W base spare held T (.slice a len cap) d p)
    {ts : List TypeId} {ds : List (DataW H)} (hsz : (DataW.weightsEach P ts ds).all (· ≤ reachBytes) = true) {j : Nat} (ht : ts[j]? = some T) (hd : ds[j]? = some d) : len * P.bytesOf e ≤ 140737488351232 := by
  obtain ⟨m, hm⟩ := h
  rcases DataW.trod_slice hu hm with ⟨e1, e2⟩ | ⟨a', len', cap', elems, rest, n, _, e1, e2, _, _, _, h3, _⟩
  · simp only [Value.cells, List.cons.injEq, Value.slice.injEq, and_true] at e1
    rw [e1.2.1]
    omega
  · simp only [Value.cells, List.cons.injEq, Value.slice.injEq, and_true] at e1
    simp only [Prod.mk.injEq] at e2
    rw [e2.1] at hd
    have := sized_slice hsz ht hd hu
    simp only [List.length_map, reachBytes] at this
    rw [e1.2.1, ← h3]
    have h5 : elems.length * P.bytesOf e ≤ (elems.length + rest.length) * P.bytesOf e := Nat.mul_le_mul_right _ (by omega)
    omega
end
theorem bytesOp : Try.prog.bytesOf 31 = 56 := by kernel_rfl
def BuiltEnd (w : World) (l : List Vs) (e : Ending) (w' : World) : Prop :=
  ∃ p bm sv rp rv, e = .returned (.tuple #[.pointer (some ⟨p, 0, none⟩), .pointer (some ⟨rp, 0, none⟩)]) ∧ Both w' w.heap.size p bm sv rp rv (runV [] l) ∧ Below w.heap.size w w'
set_option maxHeartbeats 8000000 in
set_option maxRecDepth 100000 in
theorem built_ok (a : Option Addr) (cap : Nat) (l : List Vs) (hl : l.length ≤ 2513169434880) (w : World) (h : VersAt w a l) :
    Calls Try.prog 23 #[.slice a l.length cap] w (BuiltEnd w l) := by
  have HR := Lib.hid h
  clear h
  go_enter Try.func23, Try.ntmps23
  go_wp2_with fail
  with_reducible refine (bnew_ok w.heap.size w (Nat.le_refl _)).mono ?_
  rintro e w1 ⟨p1, bm1, rfl, hS1, hb1, g1, g2⟩
  have HS1 := Lib.hid hS1
  have HB1 := Lib.hid hb1
  have z1 := hb1.size
  clear hS1 hb1
  obtain ⟨w2, hw2⟩ : ∃ W, w1.alloc (.cells #[.slice none 0 0] 48) = W := ⟨_, rfl⟩
  have HB := Lib.hid (Both.start (w0 := w) HS1.out hw2 z1)
  have hb2 : Below w1.heap.size w1 w2 := by rw [← hw2]; exact (Below.refl _ _).alloc (Nat.le_refl _) _
  have HB2 := Lib.hid (HB1.out.trans (hb2.mono HB1.out.size))
  have HW2 := Lib.hid hw2
  clear hw2 hb2
  go_wp2_with fail
  rw [HW2.out]
  go_loopw [6] (fun i wr => ∃ j : Nat, j ≤ l.length ∧ i = .int .i64 j ∧ Hid (∃ sv rv, Both wr w.heap.size p1 bm1 sv w1.heap.size rv (runV [] (l.take j))) ∧ Hid (Below w.heap.size w wr)) (fun i _ => l.length - (intOf i).toNat)
  case atStart => exact ⟨0, by omega, rfl, ⟨_, _, HB.out⟩, HB2.out⟩
  case round =>
    obtain ⟨j, hj, rfl, HBo, HBr⟩ := hrel
    by_cases hlt : j < l.length
    · have hx := List.getElem?_eq_getElem hlt
      obtain ⟨x, hy⟩ : ∃ x, l[j] = x := ⟨_, rfl⟩
      have hxo : x.Ok := by rw [← hy]; exact HR.out.2 _ (List.getElem_mem _)
      have hT : l.take (j + 1) = l.take j ++ [l[j]] := List.take_succ_eq_append_getElem hlt
      rw [hy] at hx hT
      have HX := Lib.hid hxo
      have HT := Lib.hid hT
      have hRr : RecsAt wr a 7 encS l := RowsAt.after HR.out.1 HBr.out
      obtain ⟨b, o, rfl, _⟩ := hRr (by omega)
      obtain ⟨xs, xc, xk, xd, xn, xm, xp⟩ := x
      have t0 : wr.cell? ⟨b, o + j * 7, none⟩ = some (.int .i64 xs) := RecsAt.cell hRr rfl hlt hx (j := 0) rfl
      have t1 : wr.cell? ⟨b, o + j * 7 + 1, none⟩ = some (.bool xc) := RecsAt.cell hRr rfl hlt hx (j := 1) rfl
      have t2 : wr.cell? ⟨b, o + j * 7 + 2, none⟩ = some (.int .i64 xk) := RecsAt.cell hRr rfl hlt hx (j := 2) rfl
      have t3 : wr.cell? ⟨b, o + j * 7 + 3, none⟩ = some (.int .i64 xd) := RecsAt.cell hRr rfl hlt hx (j := 3) rfl
      have t4 : wr.cell? ⟨b, o + j * 7 + 4, none⟩ = some (.int .i64 xn) := RecsAt.cell hRr rfl hlt hx (j := 4) rfl
      have t5 : wr.cell? ⟨b, o + j * 7 + 5, none⟩ = some (.int .i64 xm) := RecsAt.cell hRr rfl hlt hx (j := 5) rfl
      have t6 : wr.cell? ⟨b, o + j * 7 + 6, none⟩ = some (.int .i64 xp) := RecsAt.cell hRr rfl hlt hx (j := 6) rfl
      clear hx hRr hy hT hxo
      have i1 : (0 : Int) ≤ (j : Int) := by omega
      have i2 : (j : Int) < (l.length : Int) := by omega
      obtain ⟨sv, rv, hbo⟩ := HBo.out
      have hlen : (runV [] (l.take j)).length ≤ j := by have := runV_len [] (l.take j); simp at this; omega
      have HTS : Hid (runV [] (l.take (j + 1)) = callV (runV [] (l.take j)) ⟨xs, xc, xk, xd, xn, xm, xp⟩) := by
        show _ = _
        rw [HT.out, runV_snoc]
      obtain ⟨V, hV⟩ : ∃ V, runV [] (l.take j) = V := ⟨_, rfl⟩
      rw [hV] at hbo hlen HTS
      have HBoth := Lib.hid hbo
      have hd : Calls Try.prog 17 #[.pointer (some ⟨p1, 0, none⟩), .pointer (some ⟨w1.heap.size, 0, none⟩), .agg #[.int .i64 xs, .bool xc, .int .i64 xk, .int .i64 xd, .int .i64 xn, .int .i64 xm, .int .i64 xp]] wr (DoesEnd wr w.heap.size p1 bm1 sv w1.heap.size rv V ⟨xs, xc, xk, xd, xn, xm, xp⟩) := does_ok w.heap.size p1 bm1 sv w1.heap.size rv V ⟨xs, xc, xk, xd, xn, xm, xp⟩ HX.out.n HX.out.m wr HBr.out.size hbo (by omega)
      have HD := Lib.hid hd
      clear hV hbo hd
      go_wp2_with fail
      with_reducible refine HD.out.mono ?_
      rintro e w3 ⟨sv2, rv2, rfl, hb3, ht3, _, _⟩
      have HE : Hid (∃ sv rv, Both w3 w.heap.size p1 bm1 sv w1.heap.size rv (runV [] (l.take (j + 1)))) := ⟨sv2, rv2, by rw [HTS.out]; exact hb3⟩
      have HB3' := Lib.hid (HBr.out.trans (ht3.below HBr.out.size fun b hb => (HBoth.out.bs_ge b hb).1))
      clear hb3 ht3 t0 t1 t2 t3 t4 t5 t6
      go_wp2_with fail
      go_roundw
      case rel => exact ⟨j + 1, by omega, by go_num, HE, HB3'⟩
      case measure => simp [intOf]; omega
    · obtain rfl : j = l.length := by omega
      obtain ⟨sv, rv, hbo⟩ := HBo.out
      rw [List.take_length] at hbo
      have HF := Lib.hid hbo
      clear hbo
      go_wp2_with fail
      go_ret2
      exact ⟨p1, bm1, sv, w1.heap.size, rv, rfl, HF.out, HBr.out⟩

end Go.Proofs.Ytkloijkfaooodaa
