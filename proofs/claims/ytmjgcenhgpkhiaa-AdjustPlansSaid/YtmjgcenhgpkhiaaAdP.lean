/- The law's Flows. -/
import Derived.Test.YtmjgcenhgpkhiaaAdO
import Derived.Test.YtmjgcenhgpkhiaaAdM
namespace Go.Proofs.Ytmjgcenhgpkhiaa
open Go.RowKit Go.Sort Go.Shelf
set_option linter.unusedVariables false
set_option linter.unusedSimpArgs false

theorem fl_self (n d c : Int) (W : World) : (binOp .neq 44 (.agg #[.int .i64 n, .int .i64 d, .int .i64 c]) (.agg #[.int .i64 n, .int .i64 d, .int .i64 c])).run Try.prog W = .ok (.bool false) W := by
  have h := eq_struct W Try.underlying44 (by kernel_rfl) (by kernel_rfl) [n, d, c] [n, d, c] rfl rfl
  rw [decide_eq_true rfl] at h
  have h' : (Op.equalIn 10000 44 (.agg #[.int .i64 n, .int .i64 d, .int .i64 c]) (.agg #[.int .i64 n, .int .i64 d, .int .i64 c])).run Try.prog W = .ok true W := h
  rw [run_neq_struct, h']
  rfl
set_option maxHeartbeats 4000000 in
set_option maxRecDepth 100000 in
theorem flows_ok (a a' : Option Addr) (cap cap' : Nat) (S : List Fl) (w : World) (h : RecsAt w a 3 encW S) (h' : RecsAt w a' 3 encW S) (hl : S.length ≤ 1000) :
    Calls Try.prog 18 #[.slice a S.length cap, .slice a' S.length cap'] w (TrueEnd w) := by
  have H := Lib.hid h
  have H' := Lib.hid h'
  clear h h'
  go_enter Try.func18, Try.ntmps18
  go_wp2_with fail
  go_loopw [5] (fun i wr => ∃ j : Nat, j ≤ S.length ∧ i = .int .i64 j ∧ Hid (Below w.heap.size w wr)) (fun i _ => S.length - (intOf i).toNat)
  case atStart => exact ⟨0, by omega, rfl, Below.refl _ _⟩
  case round =>
    obtain ⟨j, hj, rfl, HBq⟩ := hrel
    by_cases hlt : j < S.length
    · have hx := List.getElem?_eq_getElem hlt
      obtain ⟨x, hy⟩ : ∃ x, S[j] = x := ⟨_, rfl⟩
      rw [hy] at hx
      have hR1 := RowsAt.after H.out HBq.out
      have hR2 := RowsAt.after H'.out HBq.out
      obtain ⟨b, o, rfl, _⟩ := hR1 (by omega)
      obtain ⟨b', o', rfl, _⟩ := hR2 (by omega)
      obtain ⟨xn, xd, xc⟩ := x
      have p0 : wr.cell? ⟨b, o + j * 3, none⟩ = some (.int .i64 xn) := RecsAt.cell hR1 rfl hlt hx (j := 0) rfl
      have p1 : wr.cell? ⟨b, o + j * 3 + 1, none⟩ = some (.int .i64 xd) := RecsAt.cell hR1 rfl hlt hx (j := 1) rfl
      have p2 : wr.cell? ⟨b, o + j * 3 + 2, none⟩ = some (.int .i64 xc) := RecsAt.cell hR1 rfl hlt hx (j := 2) rfl
      have q0 : wr.cell? ⟨b', o' + j * 3, none⟩ = some (.int .i64 xn) := RecsAt.cell hR2 rfl hlt hx (j := 0) rfl
      have q1 : wr.cell? ⟨b', o' + j * 3 + 1, none⟩ = some (.int .i64 xd) := RecsAt.cell hR2 rfl hlt hx (j := 1) rfl
      have q2 : wr.cell? ⟨b', o' + j * 3 + 2, none⟩ = some (.int .i64 xc) := RecsAt.cell hR2 rfl hlt hx (j := 2) rfl
      have heq := fun w => fl_self xn xd xc w
      have i1 : (0 : Int) ≤ (j : Int) := by omega
      have i2 : (j : Int) < (S.length : Int) := by omega
      clear hx hy hR1 hR2
      go_wp2_with (go_quiet (fail))
      go_roundw
      case rel => exact ⟨j + 1, by omega, by go_num, HBq.out.trans (below_draws _ _)⟩
      case measure => simp [intOf]; omega
    · obtain rfl : j = S.length := by omega
      go_wp2_with fail
      go_ret
      exact ⟨rfl, HBq.out⟩

end Go.Proofs.Ytmjgcenhgpkhiaa
