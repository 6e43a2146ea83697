/- Bytes: read. -/
import Derived.Test.YtkloijkfaooodaaBitW
namespace Go.Proofs.Ytkloijkfaooodaa
open Go.RowKit Go.Shelf
set_option linter.unusedVariables false
set_option linter.unusedSimpArgs false

def encY (x : Int) : List Value := [.int .u8 x]
def IsB (bs : List Int) : Prop := ∀ x ∈ bs, 0 ≤ x ∧ x ≤ 255
def rdS (n x : Int) : Int := bits BinOp.or IntKind.i64 (wrap64 (n * 256)) x
theorem rdS_eq (n x : Int) (h0 : 0 ≤ x) (h1 : x ≤ 255) : rdS n x = wrap64 (n * 256 + x) := by
  unfold rdS
  show IntKind.i64.wrap ((BitVec.ofInt 64 (wrap64 (n * 256)) ||| BitVec.ofInt 64 x).toNat : Int) = _
  have hm : (BitVec.ofInt 64 (wrap64 (n * 256))).toNat = (n % 72057594037927936).toNat * 256 := by
    rw [BitVec.toNat_ofInt]
    unfold wrap64
    omega
  have hx : (BitVec.ofInt 64 x).toNat = x.toNat := by
    rw [BitVec.toNat_ofInt]
    omega
  rw [BitVec.toNat_or, hm, hx]
  have hor : (n % 72057594037927936).toNat * 256 ||| x.toNat = (n % 72057594037927936).toNat * 256 + x.toNat := by
    have := Nat.two_pow_add_eq_or_of_lt (i := 8) (b := x.toNat) (by omega) (n % 72057594037927936).toNat
    rw [show (2 : Nat) ^ 8 = 256 by decide, Nat.mul_comm] at this
    exact this.symm
  rw [hor]
  rw [IntKind.wrap_i64]
  unfold wrap64
  omega
def rdN (bs : List Int) : Int := bs.foldl rdS 0
theorem read_ok (a : Option Addr) (cap : Nat) (bs : List Int) (w : World) (h : RecsAt w a 1 encY bs) (hB : IsB bs) (hl : bs.length ≤ 1000) :
    Calls Try.prog 59 #[.slice a bs.length cap] w fun e w' => e = .returned (.int .i64 (rdN bs)) ∧ w' = w := by
  have HR := Lib.hid h
  have HBy := Lib.hid hB
  clear h hB
  go_enter Try.func59, Try.ntmps59
  go_wp2_with fail
  go_loop [3, 8] (fun n i => ∃ j : Nat, j ≤ bs.length ∧ i = .int .i64 j ∧ n = .int .i64 (rdN (bs.take j))) (fun _ i => bs.length - (intOf i).toNat)
  case atStart => exact ⟨0, by omega, rfl, rfl⟩
  case round =>
    obtain ⟨j, hj, rfl, rfl⟩ := hrel
    by_cases hlt : j < bs.length
    · have hx := List.getElem?_eq_getElem hlt
      obtain ⟨x, hy⟩ : ∃ x, bs[j] = x := ⟨_, rfl⟩
      rw [hy] at hx
      have hxb : 0 ≤ x ∧ x ≤ 255 := by rw [← hy]; exact HBy.out _ (List.getElem_mem _)
      obtain ⟨hx0, hx1⟩ := hxb
      have hRr := HR.out
      obtain ⟨b, o, rfl, _⟩ := hRr (by omega)
      have t0 : w.cell? ⟨b, o + j * 1, none⟩ = some (.int .u8 x) := RecsAt.cell hRr rfl hlt hx (j := 0) rfl
      rw [Nat.mul_one] at t0
      obtain ⟨n, hn⟩ : ∃ n, rdN (bs.take j) = n := ⟨_, rfl⟩
      rw [hn]
      have HT : Hid (rdN (bs.take (j + 1)) = rdS (rdN (bs.take j)) x) := by
        show _ = _
        rw [List.take_succ_eq_append_getElem hlt, hy]
        unfold rdN
        rw [List.foldl_append]
        rfl
      have HN := Lib.hid hn
      clear hx hy hRr hn
      have i1 : (0 : Int) ≤ (j : Int) := by omega
      have i2 : (j : Int) < (bs.length : Int) := by omega
      go_wp2_with fail
      go_round
      case rel => exact ⟨j + 1, by omega, by go_num, by rw [HT.out, HN.out]; rfl⟩
      case measure => simp [intOf]; omega
    · obtain rfl : j = bs.length := by omega
      rw [List.take_length]
      go_wp2_with fail
      go_ret
      exact ⟨rfl, rfl⟩

end Go.Proofs.Ytkloijkfaooodaa
