/- Bytes: read, decode. -/
import Derived.Test.YtkloijkfaooodaaBitW
import Derived.Test.YtkloijkfaooodaaHeldG
namespace Go.Proofs.Ytkloijkfaooodaa
open Go.RowKit Go.Shelf
set_option linter.unusedVariables false
set_option linter.unusedSimpArgs false

def encY (x : Int) : List Value := [.int .u8 x]
def IsB (bs : List Int) : Prop := ∀ x ∈ bs, 0 ≤ x ∧ x ≤ 255
def rdS (n x : Int) : Int := bits BinOp.or IntKind.i64 (wrap64 (n * 256)) x
theorem rdS_eq (n x : Int) (h0 : 0 ≤ x) (h1 : x ≤ 255) : rdS n x = wrap64 (n * 256 + x) := by
  unfold rdS
  show IntKind.i64.wrap ((BitVec.ofInt 64 (wrap64 (n * 256)) ||| BitVec.ofInt 64 x).toNat : Int) = _
  have hm : (BitVec.ofInt 64 (wrap64 (n * 256))).toNat = (n % 72057594037927936).toNat * 256 := by
    rw [BitVec.toNat_ofInt]
    unfold wrap64
    omega
  have hx : (BitVec.ofInt 64 x).toNat = x.toNat := by
    rw [BitVec.toNat_ofInt]
    omega
  rw [BitVec.toNat_or, hm, hx]
  have hor : (n % 72057594037927936).toNat * 256 ||| x.toNat = (n % 72057594037927936).toNat * 256 + x.toNat := by
    have := Nat.two_pow_add_eq_or_of_lt (i := 8) (b := x.toNat) (by omega) (n % 72057594037927936).toNat
    rw [show (2 : Nat) ^ 8 = 256 by decide, Nat.mul_comm] at this
    exact this.symm
  rw [hor]
  rw [IntKind.wrap_i64]
  unfold wrap64
  omega
def rdN (bs : List Int) : Int := bs.foldl rdS 0
theorem read_ok (a : Option Addr) (cap : Nat) (bs : List Int) (w : World) (h : RecsAt w a 1 encY bs) (hB : IsB bs) (hl : bs.length ≤ 1000) :
    Calls Try.prog 59 #[.slice a bs.length cap] w fun e w' => e = .returned (.int .i64 (rdN bs)) ∧ w' = w := by
  have HR := Lib.hid h
  have HBy := Lib.hid hB
  clear h hB
  go_enter Try.func59, Try.ntmps59
  go_wp2_with fail
  go_loop [3, 8] (fun n i => ∃ j : Nat, j ≤ bs.length ∧ i = .int .i64 j ∧ n = .int .i64 (rdN (bs.take j))) (fun _ i => bs.length - (intOf i).toNat)
  case atStart => exact ⟨0, by omega, rfl, rfl⟩
  case round =>
    obtain ⟨j, hj, rfl, rfl⟩ := hrel
    by_cases hlt : j < bs.length
    · have hx := List.getElem?_eq_getElem hlt
      obtain ⟨x, hy⟩ : ∃ x, bs[j] = x := ⟨_, rfl⟩
      rw [hy] at hx
      have hxb : 0 ≤ x ∧ x ≤ 255 := by rw [← hy]; exact HBy.out _ (List.getElem_mem _)
      obtain ⟨hx0, hx1⟩ := hxb
      have hRr := HR.out
      obtain ⟨b, o, rfl, _⟩ := hRr (by omega)
      have t0 : w.cell? ⟨b, o + j * 1, none⟩ = some (.int .u8 x) := RecsAt.cell hRr rfl hlt hx (j := 0) rfl
      rw [Nat.mul_one] at t0
      obtain ⟨n, hn⟩ : ∃ n, rdN (bs.take j) = n := ⟨_, rfl⟩
      rw [hn]
      have HT : Hid (rdN (bs.take (j + 1)) = rdS (rdN (bs.take j)) x) := by
        show _ = _
        rw [List.take_succ_eq_append_getElem hlt, hy]
        unfold rdN
        rw [List.foldl_append]
        rfl
      have HN := Lib.hid hn
      clear hx hy hRr hn
      have i1 : (0 : Int) ≤ (j : Int) := by omega
      have i2 : (j : Int) < (bs.length : Int) := by omega
      go_wp2_with fail
      go_round
      case rel => exact ⟨j + 1, by omega, by go_num, by rw [HT.out, HN.out]; rfl⟩
      case measure => simp [intOf]; omega
    · obtain rfl : j = bs.length := by omega
      rw [List.take_length]
      go_wp2_with fail
      go_ret
      exact ⟨rfl, rfl⟩

theorem RecsAt.part {w : World} {b o : Nat} {bs : List Int} (h : RecsAt w (some ⟨b, o, none⟩) 1 encY bs) (i n : Nat) (hn : i + n ≤ bs.length) : RecsAt w (some ⟨b, o + i, none⟩) 1 encY ((bs.drop i).take n) := fun hl => by
  have hlen : ((bs.drop i).take n).length = n := by simp; omega
  obtain ⟨b', o', e, hc⟩ := h (by have : 0 < n := by rw [hlen] at hl; exact hl
                                  omega)
  cases e
  refine ⟨b, o + i, rfl, fun k hk j v hv => ?_⟩
  rw [hlen] at hk
  have := hc (i + k) (by omega) j v (by
    unfold recF at hv ⊢
    rw [List.getD_eq_getElem?_getD, List.getElem?_take_of_lt hk, List.getElem?_drop] at hv
    rw [List.getD_eq_getElem?_getD]
    exact hv)
  rw [show o + i + k * 1 + j = o + (i + k) * 1 + j by omega]
  exact this
theorem IsB.part {bs : List Int} (h : IsB bs) (i n : Nat) : IsB ((bs.drop i).take n) := fun x hx => h x (List.mem_of_mem_drop (List.mem_of_mem_take hx))
theorem read_part {w : World} {b o cap : Nat} {bs : List Int} (h : RecsAt w (some ⟨b, o, none⟩) 1 encY bs) (hB : IsB bs) (i n : Nat) (hn : i + n ≤ bs.length) (hs : n ≤ 1000) (W : World) (hW : Below w.heap.size w W) :
    Calls Try.prog 59 #[.slice (some ⟨b, o + i, none⟩) n cap] W fun e w' => e = .returned (.int .i64 (rdN ((bs.drop i).take n))) ∧ w' = W := by
  have hlen : ((bs.drop i).take n).length = n := by simp; omega
  have h1 : RecsAt W (some ⟨b, o + i, none⟩) 1 encY ((bs.drop i).take n) := (h.part i n hn).after hW
  have := read_ok (some ⟨b, o + i, none⟩) cap ((bs.drop i).take n) W h1 (hB.part i n) (by omega)
  rw [hlen] at this
  exact this
theorem byte_cell {w : World} {b o : Nat} {bs : List Int} (h : RecsAt w (some ⟨b, o, none⟩) 1 encY bs) (i : Nat) (hi : i < bs.length) : w.cell? ⟨b, o + i, none⟩ = some (.int .u8 (bs.getD i 0)) := by
  have hx : bs[i]? = some (bs.getD i 0) := by rw [List.getD_eq_getElem?_getD, List.getElem?_eq_getElem hi]; rfl
  have := RecsAt.cell h rfl hi hx (j := 0) rfl
  rw [Nat.mul_one] at this
  exact this
theorem IsB.getD {bs : List Int} (h : IsB bs) (i : Nat) : 0 ≤ bs.getD i 0 ∧ bs.getD i 0 ≤ 255 := by
  rw [List.getD_eq_getElem?_getD]
  cases hx : bs[i]? with
  | none => exact ⟨Int.le_refl _, by decide⟩
  | some x => exact h x (List.mem_of_getElem? hx)

/-- What 31 bytes are. -/
def decV (bs : List Int) : Vs := ⟨rdN ((bs.drop 0).take 8), bs.getD 8 0 == 1, bs.getD 9 0, rdN ((bs.drop 10).take 4), rdN ((bs.drop 14).take 8), rdN ((bs.drop 22).take 8), bs.getD 30 0⟩
def decB (bs : List Int) : Bool := if bs.getD 8 0 = 1 then decide (rdN ((bs.drop 14).take 8) = 0 ∧ rdN ((bs.drop 22).take 8) = 0) else (bs.getD 8 0 == 0) && (bs.getD 30 0 == 0)
theorem ratio_eql (n m n' m' : Int) (w : World) : (binOp .eql 24 (.agg #[.int .i64 n, .int .i64 m]) (.agg #[.int .i64 n', .int .i64 m'])).run Try.prog w = .ok (.bool (decide (n = n' ∧ m = m'))) w := by
  rw [run_eql_struct, ratio_eqIn 9997]
  rfl
def DecEnd (w : World) (bs : List Int) (e : Ending) (w' : World) : Prop := e = .returned (.tuple #[.agg (encS (decV bs)).toArray, .bool (decB bs)]) ∧ Below w.heap.size w w'
set_option maxHeartbeats 8000000 in
set_option maxRecDepth 100000 in
theorem decode_ok (b o cap : Nat) (bs : List Int) (hl : bs.length = 31) (hcap : 31 ≤ cap) (hcap2 : cap ≤ 9223372036854775807) (hB : IsB bs) (w : World) (h : RecsAt w (some ⟨b, o, none⟩) 1 encY bs) :
    Calls Try.prog 43 #[.slice (some ⟨b, o, none⟩) 31 cap] w (DecEnd w bs) := by
  have hmx : Try.prog.follows .mixedOrders = true := by kernel_rfl
  obtain ⟨w0, hw0⟩ : ∃ W, w.alloc (.cells #[.int .i64 0, .bool false, .int .i64 0, .int .i64 0, .int .i64 0, .int .i64 0, .int .i64 0] 26) = W := ⟨_, rfl⟩
  have hb0 : Below w.heap.size w w0 := by rw [← hw0]; exact (Below.refl _ _).alloc (Nat.le_refl _) _
  have hk0 : Blk w0 w.heap.size #[.int .i64 0, .bool false, .int .i64 0, .int .i64 0, .int .i64 0, .int .i64 0, .int .i64 0] 26 := by rw [← hw0]; exact Blk.new _ _ _
  have hbd : Below w.heap.size w w0.drew := hb0.trans (((Below.refl _ _).drew).mono hb0.size)
  have hwd : RecsAt w0.drew (some ⟨b, o, none⟩) 1 encY bs := h.after hbd
  obtain ⟨r0, e0⟩ : ∃ r, rdN ((bs.drop 0).take 8) = r := ⟨_, rfl⟩
  obtain ⟨r1, e1⟩ : ∃ r, rdN ((bs.drop 10).take 4) = r := ⟨_, rfl⟩
  obtain ⟨r2, e2⟩ : ∃ r, rdN ((bs.drop 14).take 8) = r := ⟨_, rfl⟩
  obtain ⟨r3, e3⟩ : ∃ r, rdN ((bs.drop 22).take 8) = r := ⟨_, rfl⟩
  have R0 : Hid (∀ W, Below w.heap.size w W → Calls Try.prog 59 #[.slice (some ⟨b, o, none⟩) 8 cap] W fun e w' => e = .returned (.int .i64 r0) ∧ w' = W) := fun W hW => by rw [← e0]; exact read_part h hB 0 8 (by omega) (by omega) W hW
  have R1 : Hid (∀ W, Below w.heap.size w W → Calls Try.prog 59 #[.slice (some ⟨b, o + 10, none⟩) 4 (cap - 10)] W fun e w' => e = .returned (.int .i64 r1) ∧ w' = W) := fun W hW => by rw [← e1]; exact read_part h hB 10 4 (by omega) (by omega) W hW
  have R2 : Hid (∀ W, Below w.heap.size w W → Calls Try.prog 59 #[.slice (some ⟨b, o + 14, none⟩) 8 (cap - 14)] W fun e w' => e = .returned (.int .i64 r2) ∧ w' = W) := fun W hW => by rw [← e2]; exact read_part h hB 14 8 (by omega) (by omega) W hW
  have R3 : Hid (∀ W, Below w.heap.size w W → Calls Try.prog 59 #[.slice (some ⟨b, o + 22, none⟩) 8 (cap - 22)] W fun e w' => e = .returned (.int .i64 r3) ∧ w' = W) := fun W hW => by rw [← e3]; exact read_part h hB 22 8 (by omega) (by omega) W hW
  have q8 := byte_cell hwd 8 (by omega)
  have q9 := byte_cell hwd 9 (by omega)
  have q30 := byte_cell hwd 30 (by omega)
  have v8 := hB.getD 8
  have v9 := hB.getD 9
  have v30 := hB.getD 30
  obtain ⟨x8, e8⟩ : ∃ r, bs.getD 8 0 = r := ⟨_, rfl⟩
  obtain ⟨x9, e9⟩ : ∃ r, bs.getD 9 0 = r := ⟨_, rfl⟩
  obtain ⟨x30, e30⟩ : ∃ r, bs.getD 30 0 = r := ⟨_, rfl⟩
  have HV : Hid (decV bs = ⟨r0, x8 == 1, x9, r1, r2, r3, x30⟩) := by
    show _ = _
    unfold decV
    rw [e0, e1, e2, e3, e8, e9, e30]
  have HD : Hid (decB bs = if x8 = 1 then decide (r2 = 0 ∧ r3 = 0) else (x8 == 0) && (x30 == 0)) := by
    show _ = _
    unfold decB
    rw [e2, e3, e8, e30]
  have HSS : Hid (∀ W, Below w.heap.size w W → W.cell? ⟨b, o + 8, none⟩ = some (.int .u8 x8) ∧ W.cell? ⟨b, o + 9, none⟩ = some (.int .u8 x9) ∧ W.cell? ⟨b, o + 30, none⟩ = some (.int .u8 x30) ∧ Below w.heap.size w W) := fun W hW => by
    have hwW : RecsAt W (some ⟨b, o, none⟩) 1 encY bs := h.after hW
    have q8 := byte_cell hwW 8 (by omega)
    have q9 := byte_cell hwW 9 (by omega)
    have q30 := byte_cell hwW 30 (by omega)
    rw [e8] at q8
    rw [e9] at q9
    rw [e30] at q30
    exact ⟨q8, q9, q30, hW⟩
  rw [e8] at q8 v8
  rw [e9] at q9 v9
  rw [e30] at q30 v30
  obtain ⟨v80, v81⟩ := v8
  obtain ⟨v90, v91⟩ := v9
  obtain ⟨v300, v301⟩ := v30
  have HW0 := Lib.hid hw0
  have HK0 := Lib.hid hk0
  have HB0 := Lib.hid hb0
  clear q8 q9 q30 hw0 hk0 hb0 hwd e0 e1 e2 e3 e8 e9 e30 hB h hl
  have g9 : IntKind.i64.wrap x9 = x9 := IntWalk.i64_in _ (by omega)
  have g30 : IntKind.i64.wrap x30 = x30 := IntWalk.i64_in _ (by omega)
  have m1 : ¬ cap = 10 := by omega
  have m2 : ¬ cap = 14 := by omega
  have m3 : ¬ cap = 22 := by omega
  have c1 : (8 : Int) ≤ (cap : Int) := by omega
  have c2 : (14 : Int) ≤ (cap : Int) := by omega
  have c3 : (22 : Int) ≤ (cap : Int) := by omega
  have c4 : (30 : Int) ≤ (cap : Int) := by omega
  have HZ0 : Hid (w0.heap.size = w.heap.size + 1) := by show _ = _; rw [← HW0.out]; simp
  by_cases h1 : x8 = 1
  · subst h1
    have heq := fun w => ratio_eql r2 r3 0 0 w
    go_enter Try.func43, Try.ntmps43
    go_wp2_with fail
    rw [HW0.out]
    refine hL_start (fun W => W.cell? ⟨b, o + 8, none⟩ = some (.int .u8 1) ∧ W.cell? ⟨b, o + 9, none⟩ = some (.int .u8 x9) ∧ W.cell? ⟨b, o + 30, none⟩ = some (.int .u8 x30) ∧ Below w.heap.size w W) (by kernel_rfl) ?_
    have hSd := HSS.out _ hbd
    refine hL_take (i := 0) (v := ?_) rfl (by kernel_rfl) (fun _ _ _ h => h) (by rfl) hSd ?_ ?_
    rotate_left 1
    · intro wS hSw
      obtain ⟨p8, p9, p30, pW⟩ := hSw
      go_simp
      try with_reducible rfl
    try simp only [Act.put, List.setIfInBounds_toArray, List.set_cons_zero, List.set_cons_succ]
    refine hL_take (i := 1) (v := ?_) rfl (by kernel_rfl) (fun _ _ _ h => h) (by rfl) hSd ?_ ?_
    rotate_left 1
    · intro wS hSw
      obtain ⟨p8, p9, p30, pW⟩ := hSw
      go_simp
      try with_reducible rfl
    try simp only [Act.put, List.setIfInBounds_toArray, List.set_cons_zero, List.set_cons_succ]
    refine hL_call (i := 2) (v := ?_) rfl (by kernel_rfl) (fun _ _ _ h => h) (by rfl) hSd ?_ ?_
    rotate_left 1
    · intro wS hSw
      obtain ⟨p8, p9, p30, pW⟩ := hSw
      go_simp
      with_reducible exact R0.out _ pW
    try simp only [Act.put, List.setIfInBounds_toArray, List.set_cons_zero, List.set_cons_succ]
    refine hL_take (i := 3) (v := ?_) rfl (by kernel_rfl) (fun _ _ _ h => h) (by rfl) hSd ?_ ?_
    rotate_left 1
    · intro wS hSw
      obtain ⟨p8, p9, p30, pW⟩ := hSw
      go_simp
      try with_reducible rfl
    try simp only [Act.put, List.setIfInBounds_toArray, List.set_cons_zero, List.set_cons_succ]
    refine hL_take (i := 4) (v := ?_) rfl (by kernel_rfl) (fun _ _ _ h => h) (by rfl) hSd ?_ ?_
    rotate_left 1
    · intro wS hSw
      obtain ⟨p8, p9, p30, pW⟩ := hSw
      go_simp
      try with_reducible rfl
    try simp only [Act.put, List.setIfInBounds_toArray, List.set_cons_zero, List.set_cons_succ]
    refine hL_take (i := 5) (v := ?_) rfl (by kernel_rfl) (fun _ _ _ h => h) (by rfl) hSd ?_ ?_
    rotate_left 1
    · intro wS hSw
      obtain ⟨p8, p9, p30, pW⟩ := hSw
      go_simp
      try with_reducible rfl
    try simp only [Act.put, List.setIfInBounds_toArray, List.set_cons_zero, List.set_cons_succ]
    refine hL_take (i := 6) (v := ?_) rfl (by kernel_rfl) (fun _ _ _ h => h) (by rfl) hSd ?_ ?_
    rotate_left 1
    · intro wS hSw
      obtain ⟨p8, p9, p30, pW⟩ := hSw
      go_simp
      try with_reducible rfl
    try simp only [Act.put, List.setIfInBounds_toArray, List.set_cons_zero, List.set_cons_succ]
    refine hL_take (i := 7) (v := ?_) rfl (by kernel_rfl) (fun _ _ _ h => h) (by rfl) hSd ?_ ?_
    rotate_left 1
    · intro wS hSw
      obtain ⟨p8, p9, p30, pW⟩ := hSw
      go_simp
      try with_reducible rfl
    try simp only [Act.put, List.setIfInBounds_toArray, List.set_cons_zero, List.set_cons_succ]
    refine hL_take (i := 8) (v := ?_) rfl (by kernel_rfl) (fun _ _ _ h => h) (by rfl) hSd ?_ ?_
    rotate_left 1
    · intro wS hSw
      obtain ⟨p8, p9, p30, pW⟩ := hSw
      go_simp
      try with_reducible rfl
    try simp only [Act.put, List.setIfInBounds_toArray, List.set_cons_zero, List.set_cons_succ]
    refine hL_take (i := 9) (v := ?_) rfl (by kernel_rfl) (fun _ _ _ h => h) (by rfl) hSd ?_ ?_
    rotate_left 1
    · intro wS hSw
      obtain ⟨p8, p9, p30, pW⟩ := hSw
      go_simp
      try with_reducible rfl
    try simp only [Act.put, List.setIfInBounds_toArray, List.set_cons_zero, List.set_cons_succ]
    refine hL_take (i := 10) (v := ?_) rfl (by kernel_rfl) (fun _ _ _ h => h) (by rfl) hSd ?_ ?_
    rotate_left 1
    · intro wS hSw
      obtain ⟨p8, p9, p30, pW⟩ := hSw
      go_simp
      try with_reducible rfl
    try simp only [Act.put, List.setIfInBounds_toArray, List.set_cons_zero, List.set_cons_succ]
    refine hL_take (i := 11) (v := ?_) rfl (by kernel_rfl) (fun _ _ _ h => h) (by rfl) hSd ?_ ?_
    rotate_left 1
    · intro wS hSw
      obtain ⟨p8, p9, p30, pW⟩ := hSw
      go_simp
      try with_reducible rfl
    try simp only [Act.put, List.setIfInBounds_toArray, List.set_cons_zero, List.set_cons_succ]
    refine hL_take (i := 12) (v := ?_) rfl (by kernel_rfl) (fun _ _ _ h => h) (by rfl) hSd ?_ ?_
    rotate_left 1
    · intro wS hSw
      obtain ⟨p8, p9, p30, pW⟩ := hSw
      go_simp
      try with_reducible rfl
    try simp only [Act.put, List.setIfInBounds_toArray, List.set_cons_zero, List.set_cons_succ]
    refine hL_call (i := 13) (v := ?_) rfl (by kernel_rfl) (fun _ _ _ h => h) (by rfl) hSd ?_ ?_
    rotate_left 1
    · intro wS hSw
      obtain ⟨p8, p9, p30, pW⟩ := hSw
      go_simp
      with_reducible exact R1.out _ pW
    try simp only [Act.put, List.setIfInBounds_toArray, List.set_cons_zero, List.set_cons_succ]
    refine hL_take (i := 14) (v := ?_) rfl (by kernel_rfl) (fun _ _ _ h => h) (by rfl) hSd ?_ ?_
    rotate_left 1
    · intro wS hSw
      obtain ⟨p8, p9, p30, pW⟩ := hSw
      go_simp
      try with_reducible rfl
    try simp only [Act.put, List.setIfInBounds_toArray, List.set_cons_zero, List.set_cons_succ]
    refine hL_take (i := 15) (v := ?_) rfl (by kernel_rfl) (fun _ _ _ h => h) (by rfl) hSd ?_ ?_
    rotate_left 1
    · intro wS hSw
      obtain ⟨p8, p9, p30, pW⟩ := hSw
      go_simp
      try with_reducible rfl
    try simp only [Act.put, List.setIfInBounds_toArray, List.set_cons_zero, List.set_cons_succ]
    refine hL_call (i := 16) (v := ?_) rfl (by kernel_rfl) (fun _ _ _ h => h) (by rfl) hSd ?_ ?_
    rotate_left 1
    · intro wS hSw
      obtain ⟨p8, p9, p30, pW⟩ := hSw
      go_simp
      with_reducible exact R2.out _ pW
    try simp only [Act.put, List.setIfInBounds_toArray, List.set_cons_zero, List.set_cons_succ]
    refine hL_take (i := 17) (v := ?_) rfl (by kernel_rfl) (fun _ _ _ h => h) (by rfl) hSd ?_ ?_
    rotate_left 1
    · intro wS hSw
      obtain ⟨p8, p9, p30, pW⟩ := hSw
      go_simp
      try with_reducible rfl
    try simp only [Act.put, List.setIfInBounds_toArray, List.set_cons_zero, List.set_cons_succ]
    refine hL_take (i := 18) (v := ?_) rfl (by kernel_rfl) (fun _ _ _ h => h) (by rfl) hSd ?_ ?_
    rotate_left 1
    · intro wS hSw
      obtain ⟨p8, p9, p30, pW⟩ := hSw
      go_simp
      try with_reducible rfl
    try simp only [Act.put, List.setIfInBounds_toArray, List.set_cons_zero, List.set_cons_succ]
    refine hL_call (i := 19) (v := ?_) rfl (by kernel_rfl) (fun _ _ _ h => h) (by rfl) hSd ?_ ?_
    rotate_left 1
    · intro wS hSw
      obtain ⟨p8, p9, p30, pW⟩ := hSw
      go_simp
      with_reducible exact R3.out _ pW
    try simp only [Act.put, List.setIfInBounds_toArray, List.set_cons_zero, List.set_cons_succ]
    refine hL_take (i := 20) (v := ?_) rfl (by kernel_rfl) (fun _ _ _ h => h) (by rfl) hSd ?_ ?_
    rotate_left 1
    · intro wS hSw
      obtain ⟨p8, p9, p30, pW⟩ := hSw
      go_simp
      try with_reducible rfl
    try simp only [Act.put, List.setIfInBounds_toArray, List.set_cons_zero, List.set_cons_succ]
    refine hL_take (i := 21) (v := ?_) rfl (by kernel_rfl) (fun _ _ _ h => h) (by rfl) hSd ?_ ?_
    rotate_left 1
    · intro wS hSw
      obtain ⟨p8, p9, p30, pW⟩ := hSw
      go_simp
      try with_reducible rfl
    try simp only [Act.put, List.setIfInBounds_toArray, List.set_cons_zero, List.set_cons_succ]
    refine hL_take (i := 22) (v := ?_) rfl (by kernel_rfl) (fun _ _ _ h => h) (by rfl) hSd ?_ ?_
    rotate_left 1
    · intro wS hSw
      obtain ⟨p8, p9, p30, pW⟩ := hSw
      go_simp
      try with_reducible rfl
    try simp only [Act.put, List.setIfInBounds_toArray, List.set_cons_zero, List.set_cons_succ]
    refine hL_take (i := 23) (v := ?_) rfl (by kernel_rfl) (fun _ _ _ h => h) (by rfl) hSd ?_ ?_
    rotate_left 1
    · intro wS hSw
      obtain ⟨p8, p9, p30, pW⟩ := hSw
      go_simp
      try with_reducible rfl
    try simp only [Act.put, List.setIfInBounds_toArray, List.set_cons_zero, List.set_cons_succ]
    refine hL_take (i := 24) (v := ?_) rfl (by kernel_rfl) (fun _ _ _ h => h) (by rfl) hSd ?_ ?_
    rotate_left 1
    · intro wS hSw
      obtain ⟨p8, p9, p30, pW⟩ := hSw
      go_simp
      try with_reducible rfl
    try simp only [Act.put, List.setIfInBounds_toArray, List.set_cons_zero, List.set_cons_succ]
    refine hL_take (i := 25) (v := ?_) rfl (by kernel_rfl) (fun _ _ _ h => h) (by rfl) hSd ?_ ?_
    rotate_left 1
    · intro wS hSw
      obtain ⟨p8, p9, p30, pW⟩ := hSw
      go_simp
      try with_reducible rfl
    try simp only [Act.put, List.setIfInBounds_toArray, List.set_cons_zero, List.set_cons_succ]
    obtain ⟨w1, hw1⟩ : ∃ W, w0.drew = W := ⟨_, rfl⟩
    have hb01 : Below w0.heap.size w0 w1 := by rw [← hw1]; exact (Below.refl _ _).drew
    rw [hw1] at hbd ⊢
    clear hw1
    refine hL_next (i := 26) rfl (by kernel_rfl) (fun K hK => ?_)
    go_simp
    refine hK.out _ _ (HSS.out _ (hbd.trans ((((Below.refl _ _).alloc (Nat.le_refl _) _)).mono hbd.size))) ?_
    clear hK K
    try simp only [Act.put, List.setIfInBounds_toArray, List.set_cons_zero, List.set_cons_succ]
    refine hL_next (i := 27) rfl (by kernel_rfl) (fun K hK => ?_)
    go_simp
    obtain ⟨w2, hw2⟩ : ∃ W, w1.alloc (.cells #[.int .i64 r0, .bool true, .int .i64 x9, .int .i64 r1, .int .i64 r2, .int .i64 r3, .int .i64 x30] 26) = W := ⟨_, rfl⟩
    have hb12 : Below w1.heap.size w1 w2 := by rw [← hw2]; exact (Below.refl _ _).alloc (Nat.le_refl _) _
    have hk2 : Blk w2 w1.heap.size #[.int .i64 r0, .bool true, .int .i64 x9, .int .i64 r1, .int .i64 r2, .int .i64 r3, .int .i64 x30] 26 := by rw [← hw2]; exact Blk.new _ _ _
    have HW2 := Lib.hid hw2
    have hbw2 := hbd.trans (hb12.mono hbd.size)
    have hz2 := HK0.out.after (hb01.trans (hb12.mono hb01.size))
    rw [hw2]
    clear hw2
    refine hK.out _ _ (HSS.out _ hbw2) ?_
    clear hK K
    try simp only [Act.put, List.setIfInBounds_toArray, List.set_cons_zero, List.set_cons_succ]
    refine wpAnyH_done (by kernel_rfl) ?_ _
    have t1 : w2.cell? ⟨w1.heap.size, 1, none⟩ = some (.bool true) := hk2.cell 1 rfl
    go_wp2_with fail
    clear t1
    have hbd2 : Below w2.heap.size w2 w2.drew := (Below.refl _ _).drew
    have hk3 := hk2.after hbd2
    have hz3 := hz2.after hbd2
    have HBd3 := Lib.hid (hbw2.trans (hbd2.mono hbw2.size))
    have hne : w1.heap.size ≠ w.heap.size := by have := hb01.size; have := HZ0.out; omega
    have HS2 : Hid (∀ W, Below w.heap.size w W → Blk W w1.heap.size #[.int .i64 r0, .bool true, .int .i64 x9, .int .i64 r1, .int .i64 r2, .int .i64 r3, .int .i64 x30] 26 → W.cell? ⟨b, o + 8, none⟩ = some (.int .u8 1) ∧ W.cell? ⟨w1.heap.size, 0, none⟩ = some (.int .i64 r0) ∧ W.cell? ⟨w1.heap.size, 1, none⟩ = some (.bool true) ∧ W.cell? ⟨w1.heap.size, 2, none⟩ = some (.int .i64 x9) ∧ W.cell? ⟨w1.heap.size, 3, none⟩ = some (.int .i64 r1) ∧ W.cell? ⟨w1.heap.size, 4, none⟩ = some (.int .i64 r2) ∧ W.cell? ⟨w1.heap.size, 5, none⟩ = some (.int .i64 r3) ∧ W.cell? ⟨w1.heap.size, 6, none⟩ = some (.int .i64 x30)) := fun W hW h => ⟨(HSS.out W hW).1, h.cell 0 rfl, h.cell 1 rfl, h.cell 2 rfl, h.cell 3 rfl, h.cell 4 rfl, h.cell 5 rfl, h.cell 6 rfl⟩
    refine hL_start (fun W => W.cell? ⟨b, o + 8, none⟩ = some (.int .u8 1) ∧ W.cell? ⟨w1.heap.size, 0, none⟩ = some (.int .i64 r0) ∧ W.cell? ⟨w1.heap.size, 1, none⟩ = some (.bool true) ∧ W.cell? ⟨w1.heap.size, 2, none⟩ = some (.int .i64 x9) ∧ W.cell? ⟨w1.heap.size, 3, none⟩ = some (.int .i64 r1) ∧ W.cell? ⟨w1.heap.size, 4, none⟩ = some (.int .i64 r2) ∧ W.cell? ⟨w1.heap.size, 5, none⟩ = some (.int .i64 r3) ∧ W.cell? ⟨w1.heap.size, 6, none⟩ = some (.int .i64 x30)) (by kernel_rfl) ?_
    have hSd2 := HS2.out _ HBd3.out hk3
    obtain ⟨w3, hw3⟩ : ∃ W, w2.drew = W := ⟨_, rfl⟩
    rw [hw3] at hSd2 hk3 hz3 HBd3 ⊢
    clear hw3 hbd2
    refine hL_take (i := 0) (v := ?_) rfl (by kernel_rfl) (fun _ _ _ h => h) (by rfl) hSd2 ?_ ?_
    rotate_left 1
    · intro wS hSw
      obtain ⟨p8, p0, p1, p2, p3, p4, p5, p6⟩ := hSw
      go_simp
      try with_reducible rfl
    try simp only [Act.put, List.setIfInBounds_toArray, List.set_cons_zero, List.set_cons_succ]
    refine hL_take (i := 1) (v := ?_) rfl (by kernel_rfl) (fun _ _ _ h => h) (by rfl) hSd2 ?_ ?_
    rotate_left 1
    · intro wS hSw
      obtain ⟨p8, p0, p1, p2, p3, p4, p5, p6⟩ := hSw
      go_simp
      try with_reducible rfl
    try simp only [Act.put, List.setIfInBounds_toArray, List.set_cons_zero, List.set_cons_succ]
    refine hL_take (i := 2) (v := ?_) rfl (by kernel_rfl) (fun _ _ _ h => h) (by rfl) hSd2 ?_ ?_
    rotate_left 1
    · intro wS hSw
      obtain ⟨p8, p0, p1, p2, p3, p4, p5, p6⟩ := hSw
      go_simp
      try with_reducible rfl
    try simp only [Act.put, List.setIfInBounds_toArray, List.set_cons_zero, List.set_cons_succ]
    refine hL_take (i := 3) (v := ?_) rfl (by kernel_rfl) (fun _ _ _ h => h) (by rfl) hSd2 ?_ ?_
    rotate_left 1
    · intro wS hSw
      obtain ⟨p8, p0, p1, p2, p3, p4, p5, p6⟩ := hSw
      go_simp
      try with_reducible rfl
    try simp only [Act.put, List.setIfInBounds_toArray, List.set_cons_zero, List.set_cons_succ]
    refine hL_take (i := 4) (v := ?_) rfl (by kernel_rfl) (fun _ _ _ h => h) (by rfl) hSd2 ?_ ?_
    rotate_left 1
    · intro wS hSw
      obtain ⟨p8, p0, p1, p2, p3, p4, p5, p6⟩ := hSw
      go_simp
      try with_reducible rfl
    try simp only [Act.put, List.setIfInBounds_toArray, List.set_cons_zero, List.set_cons_succ]
    have b0 : w3.cell? ⟨w.heap.size, 0, none⟩ = some (.int .i64 0) := (hz3).cell 0 rfl
    have b1 : w3.cell? ⟨w.heap.size, 1, none⟩ = some (.bool false) := (hz3).cell 1 rfl
    have b2 : w3.cell? ⟨w.heap.size, 2, none⟩ = some (.int .i64 0) := (hz3).cell 2 rfl
    have b3 : w3.cell? ⟨w.heap.size, 3, none⟩ = some (.int .i64 0) := (hz3).cell 3 rfl
    have b4 : w3.cell? ⟨w.heap.size, 4, none⟩ = some (.int .i64 0) := (hz3).cell 4 rfl
    have b5 : w3.cell? ⟨w.heap.size, 5, none⟩ = some (.int .i64 0) := (hz3).cell 5 rfl
    have b6 : w3.cell? ⟨w.heap.size, 6, none⟩ = some (.int .i64 0) := (hz3).cell 6 rfl
    have f0 := (hz3).free 0
    have f1 := (hz3).free 1
    have f2 := (hz3).free 2
    have f3 := (hz3).free 3
    have f4 := (hz3).free 4
    have f5 := (hz3).free 5
    have f6 := (hz3).free 6
    refine hL_next (i := 5) rfl (by kernel_rfl) (fun K hK => ?_)
    go_simp
    have hk4 := put7_far hk3 hne ⟨r0, true, x9, r1, r2, r3, x30⟩
    have kz := put7_blk (u := ⟨0, false, 0, 0, 0, 0, 0⟩) hz3 ⟨r0, true, x9, r1, r2, r3, x30⟩
    have hBz := put7_below HBd3.out (Nat.le_refl w.heap.size) ⟨r0, true, x9, r1, r2, r3, x30⟩
    simp only [put7] at hk4 kz hBz
    have hSd4 := HS2.out _ hBz hk4
    refine hK.out _ _ (hSd4) ?_
    clear hK K
    try simp only [Act.put, List.setIfInBounds_toArray, List.set_cons_zero, List.set_cons_succ]
    refine hL_take (i := 6) (v := ?_) rfl (by kernel_rfl) (fun _ _ _ h => h) (by rfl) hSd4 ?_ ?_
    rotate_left 1
    · intro wS hSw
      obtain ⟨p8, p0, p1, p2, p3, p4, p5, p6⟩ := hSw
      go_simp
      try with_reducible rfl
    try simp only [Act.put, List.setIfInBounds_toArray, List.set_cons_zero, List.set_cons_succ]
    refine wpAnyH_done (by kernel_rfl) ?_ _
    have e0 := kz.cell 0 rfl
    have e1 := kz.cell 1 rfl
    have e2 := kz.cell 2 rfl
    have e3 := kz.cell 3 rfl
    have e4 := kz.cell 4 rfl
    have e5 := kz.cell 5 rfl
    have e6 := kz.cell 6 rfl
    go_wp2_with fail
    refine bodyPost_ret (v := .tuple #[.agg (encS ⟨r0, true, x9, r1, r2, r3, x30⟩).toArray, .bool (decide (r2 = 0 ∧ r3 = 0))]) (by simp [results, Try.results43, go_sem, e0, e1, e2, e3, e4, e5, e6, encS]) rfl ⟨?_, hBz⟩
    rw [HV.out, HD.out]
    rw [if_pos trivial]; rfl
  · have d1 : (x8 == 1) = false := by simpa using h1
    by_cases h0 : x8 = 0
    · subst h0
      go_enter Try.func43, Try.ntmps43
      go_wp2_with fail
      rw [HW0.out]
      refine hL_start (fun W => W.cell? ⟨b, o + 8, none⟩ = some (.int .u8 0) ∧ W.cell? ⟨b, o + 9, none⟩ = some (.int .u8 x9) ∧ W.cell? ⟨b, o + 30, none⟩ = some (.int .u8 x30) ∧ Below w.heap.size w W) (by kernel_rfl) ?_
      have hSd := HSS.out _ hbd
      refine hL_take (i := 0) (v := ?_) rfl (by kernel_rfl) (fun _ _ _ h => h) (by rfl) hSd ?_ ?_
      rotate_left 1
      · intro wS hSw
        obtain ⟨p8, p9, p30, pW⟩ := hSw
        go_simp
        try with_reducible rfl
      try simp only [Act.put, List.setIfInBounds_toArray, List.set_cons_zero, List.set_cons_succ]
      refine hL_take (i := 1) (v := ?_) rfl (by kernel_rfl) (fun _ _ _ h => h) (by rfl) hSd ?_ ?_
      rotate_left 1
      · intro wS hSw
        obtain ⟨p8, p9, p30, pW⟩ := hSw
        go_simp
        try with_reducible rfl
      try simp only [Act.put, List.setIfInBounds_toArray, List.set_cons_zero, List.set_cons_succ]
      refine hL_call (i := 2) (v := ?_) rfl (by kernel_rfl) (fun _ _ _ h => h) (by rfl) hSd ?_ ?_
      rotate_left 1
      · intro wS hSw
        obtain ⟨p8, p9, p30, pW⟩ := hSw
        go_simp
        with_reducible exact R0.out _ pW
      try simp only [Act.put, List.setIfInBounds_toArray, List.set_cons_zero, List.set_cons_succ]
      refine hL_take (i := 3) (v := ?_) rfl (by kernel_rfl) (fun _ _ _ h => h) (by rfl) hSd ?_ ?_
      rotate_left 1
      · intro wS hSw
        obtain ⟨p8, p9, p30, pW⟩ := hSw
        go_simp
        try with_reducible rfl
      try simp only [Act.put, List.setIfInBounds_toArray, List.set_cons_zero, List.set_cons_succ]
      refine hL_take (i := 4) (v := ?_) rfl (by kernel_rfl) (fun _ _ _ h => h) (by rfl) hSd ?_ ?_
      rotate_left 1
      · intro wS hSw
        obtain ⟨p8, p9, p30, pW⟩ := hSw
        go_simp
        try with_reducible rfl
      try simp only [Act.put, List.setIfInBounds_toArray, List.set_cons_zero, List.set_cons_succ]
      refine hL_take (i := 5) (v := ?_) rfl (by kernel_rfl) (fun _ _ _ h => h) (by rfl) hSd ?_ ?_
      rotate_left 1
      · intro wS hSw
        obtain ⟨p8, p9, p30, pW⟩ := hSw
        go_simp
        try with_reducible rfl
      try simp only [Act.put, List.setIfInBounds_toArray, List.set_cons_zero, List.set_cons_succ]
      refine hL_take (i := 6) (v := ?_) rfl (by kernel_rfl) (fun _ _ _ h => h) (by rfl) hSd ?_ ?_
      rotate_left 1
      · intro wS hSw
        obtain ⟨p8, p9, p30, pW⟩ := hSw
        go_simp
        try with_reducible rfl
      try simp only [Act.put, List.setIfInBounds_toArray, List.set_cons_zero, List.set_cons_succ]
      refine hL_take (i := 7) (v := ?_) rfl (by kernel_rfl) (fun _ _ _ h => h) (by rfl) hSd ?_ ?_
      rotate_left 1
      · intro wS hSw
        obtain ⟨p8, p9, p30, pW⟩ := hSw
        go_simp
        try with_reducible rfl
      try simp only [Act.put, List.setIfInBounds_toArray, List.set_cons_zero, List.set_cons_succ]
      refine hL_take (i := 8) (v := ?_) rfl (by kernel_rfl) (fun _ _ _ h => h) (by rfl) hSd ?_ ?_
      rotate_left 1
      · intro wS hSw
        obtain ⟨p8, p9, p30, pW⟩ := hSw
        go_simp
        try with_reducible rfl
      try simp only [Act.put, List.setIfInBounds_toArray, List.set_cons_zero, List.set_cons_succ]
      refine hL_take (i := 9) (v := ?_) rfl (by kernel_rfl) (fun _ _ _ h => h) (by rfl) hSd ?_ ?_
      rotate_left 1
      · intro wS hSw
        obtain ⟨p8, p9, p30, pW⟩ := hSw
        go_simp
        try with_reducible rfl
      try simp only [Act.put, List.setIfInBounds_toArray, List.set_cons_zero, List.set_cons_succ]
      refine hL_take (i := 10) (v := ?_) rfl (by kernel_rfl) (fun _ _ _ h => h) (by rfl) hSd ?_ ?_
      rotate_left 1
      · intro wS hSw
        obtain ⟨p8, p9, p30, pW⟩ := hSw
        go_simp
        try with_reducible rfl
      try simp only [Act.put, List.setIfInBounds_toArray, List.set_cons_zero, List.set_cons_succ]
      refine hL_take (i := 11) (v := ?_) rfl (by kernel_rfl) (fun _ _ _ h => h) (by rfl) hSd ?_ ?_
      rotate_left 1
      · intro wS hSw
        obtain ⟨p8, p9, p30, pW⟩ := hSw
        go_simp
        try with_reducible rfl
      try simp only [Act.put, List.setIfInBounds_toArray, List.set_cons_zero, List.set_cons_succ]
      refine hL_take (i := 12) (v := ?_) rfl (by kernel_rfl) (fun _ _ _ h => h) (by rfl) hSd ?_ ?_
      rotate_left 1
      · intro wS hSw
        obtain ⟨p8, p9, p30, pW⟩ := hSw
        go_simp
        try with_reducible rfl
      try simp only [Act.put, List.setIfInBounds_toArray, List.set_cons_zero, List.set_cons_succ]
      refine hL_call (i := 13) (v := ?_) rfl (by kernel_rfl) (fun _ _ _ h => h) (by rfl) hSd ?_ ?_
      rotate_left 1
      · intro wS hSw
        obtain ⟨p8, p9, p30, pW⟩ := hSw
        go_simp
        with_reducible exact R1.out _ pW
      try simp only [Act.put, List.setIfInBounds_toArray, List.set_cons_zero, List.set_cons_succ]
      refine hL_take (i := 14) (v := ?_) rfl (by kernel_rfl) (fun _ _ _ h => h) (by rfl) hSd ?_ ?_
      rotate_left 1
      · intro wS hSw
        obtain ⟨p8, p9, p30, pW⟩ := hSw
        go_simp
        try with_reducible rfl
      try simp only [Act.put, List.setIfInBounds_toArray, List.set_cons_zero, List.set_cons_succ]
      refine hL_take (i := 15) (v := ?_) rfl (by kernel_rfl) (fun _ _ _ h => h) (by rfl) hSd ?_ ?_
      rotate_left 1
      · intro wS hSw
        obtain ⟨p8, p9, p30, pW⟩ := hSw
        go_simp
        try with_reducible rfl
      try simp only [Act.put, List.setIfInBounds_toArray, List.set_cons_zero, List.set_cons_succ]
      refine hL_call (i := 16) (v := ?_) rfl (by kernel_rfl) (fun _ _ _ h => h) (by rfl) hSd ?_ ?_
      rotate_left 1
      · intro wS hSw
        obtain ⟨p8, p9, p30, pW⟩ := hSw
        go_simp
        with_reducible exact R2.out _ pW
      try simp only [Act.put, List.setIfInBounds_toArray, List.set_cons_zero, List.set_cons_succ]
      refine hL_take (i := 17) (v := ?_) rfl (by kernel_rfl) (fun _ _ _ h => h) (by rfl) hSd ?_ ?_
      rotate_left 1
      · intro wS hSw
        obtain ⟨p8, p9, p30, pW⟩ := hSw
        go_simp
        try with_reducible rfl
      try simp only [Act.put, List.setIfInBounds_toArray, List.set_cons_zero, List.set_cons_succ]
      refine hL_take (i := 18) (v := ?_) rfl (by kernel_rfl) (fun _ _ _ h => h) (by rfl) hSd ?_ ?_
      rotate_left 1
      · intro wS hSw
        obtain ⟨p8, p9, p30, pW⟩ := hSw
        go_simp
        try with_reducible rfl
      try simp only [Act.put, List.setIfInBounds_toArray, List.set_cons_zero, List.set_cons_succ]
      refine hL_call (i := 19) (v := ?_) rfl (by kernel_rfl) (fun _ _ _ h => h) (by rfl) hSd ?_ ?_
      rotate_left 1
      · intro wS hSw
        obtain ⟨p8, p9, p30, pW⟩ := hSw
        go_simp
        with_reducible exact R3.out _ pW
      try simp only [Act.put, List.setIfInBounds_toArray, List.set_cons_zero, List.set_cons_succ]
      refine hL_take (i := 20) (v := ?_) rfl (by kernel_rfl) (fun _ _ _ h => h) (by rfl) hSd ?_ ?_
      rotate_left 1
      · intro wS hSw
        obtain ⟨p8, p9, p30, pW⟩ := hSw
        go_simp
        try with_reducible rfl
      try simp only [Act.put, List.setIfInBounds_toArray, List.set_cons_zero, List.set_cons_succ]
      refine hL_take (i := 21) (v := ?_) rfl (by kernel_rfl) (fun _ _ _ h => h) (by rfl) hSd ?_ ?_
      rotate_left 1
      · intro wS hSw
        obtain ⟨p8, p9, p30, pW⟩ := hSw
        go_simp
        try with_reducible rfl
      try simp only [Act.put, List.setIfInBounds_toArray, List.set_cons_zero, List.set_cons_succ]
      refine hL_take (i := 22) (v := ?_) rfl (by kernel_rfl) (fun _ _ _ h => h) (by rfl) hSd ?_ ?_
      rotate_left 1
      · intro wS hSw
        obtain ⟨p8, p9, p30, pW⟩ := hSw
        go_simp
        try with_reducible rfl
      try simp only [Act.put, List.setIfInBounds_toArray, List.set_cons_zero, List.set_cons_succ]
      refine hL_take (i := 23) (v := ?_) rfl (by kernel_rfl) (fun _ _ _ h => h) (by rfl) hSd ?_ ?_
      rotate_left 1
      · intro wS hSw
        obtain ⟨p8, p9, p30, pW⟩ := hSw
        go_simp
        try with_reducible rfl
      try simp only [Act.put, List.setIfInBounds_toArray, List.set_cons_zero, List.set_cons_succ]
      refine hL_take (i := 24) (v := ?_) rfl (by kernel_rfl) (fun _ _ _ h => h) (by rfl) hSd ?_ ?_
      rotate_left 1
      · intro wS hSw
        obtain ⟨p8, p9, p30, pW⟩ := hSw
        go_simp
        try with_reducible rfl
      try simp only [Act.put, List.setIfInBounds_toArray, List.set_cons_zero, List.set_cons_succ]
      refine hL_take (i := 25) (v := ?_) rfl (by kernel_rfl) (fun _ _ _ h => h) (by rfl) hSd ?_ ?_
      rotate_left 1
      · intro wS hSw
        obtain ⟨p8, p9, p30, pW⟩ := hSw
        go_simp
        try with_reducible rfl
      try simp only [Act.put, List.setIfInBounds_toArray, List.set_cons_zero, List.set_cons_succ]
      obtain ⟨w1, hw1⟩ : ∃ W, w0.drew = W := ⟨_, rfl⟩
      have hb01 : Below w0.heap.size w0 w1 := by rw [← hw1]; exact (Below.refl _ _).drew
      rw [hw1] at hbd ⊢
      clear hw1
      refine hL_next (i := 26) rfl (by kernel_rfl) (fun K hK => ?_)
      go_simp
      refine hK.out _ _ (HSS.out _ (hbd.trans ((((Below.refl _ _).alloc (Nat.le_refl _) _)).mono hbd.size))) ?_
      clear hK K
      try simp only [Act.put, List.setIfInBounds_toArray, List.set_cons_zero, List.set_cons_succ]
      refine hL_next (i := 27) rfl (by kernel_rfl) (fun K hK => ?_)
      go_simp
      obtain ⟨w2, hw2⟩ : ∃ W, w1.alloc (.cells #[.int .i64 r0, .bool false, .int .i64 x9, .int .i64 r1, .int .i64 r2, .int .i64 r3, .int .i64 x30] 26) = W := ⟨_, rfl⟩
      have hb12 : Below w1.heap.size w1 w2 := by rw [← hw2]; exact (Below.refl _ _).alloc (Nat.le_refl _) _
      have hk2 : Blk w2 w1.heap.size #[.int .i64 r0, .bool false, .int .i64 x9, .int .i64 r1, .int .i64 r2, .int .i64 r3, .int .i64 x30] 26 := by rw [← hw2]; exact Blk.new _ _ _
      have HW2 := Lib.hid hw2
      have hbw2 := hbd.trans (hb12.mono hbd.size)
      have hz2 := HK0.out.after (hb01.trans (hb12.mono hb01.size))
      rw [hw2]
      clear hw2
      refine hK.out _ _ (HSS.out _ hbw2) ?_
      clear hK K
      try simp only [Act.put, List.setIfInBounds_toArray, List.set_cons_zero, List.set_cons_succ]
      refine wpAnyH_done (by kernel_rfl) ?_ _
      have t1 : w2.cell? ⟨w1.heap.size, 1, none⟩ = some (.bool false) := hk2.cell 1 rfl
      go_wp2_with fail
      clear t1
      have hbd2 : Below w2.heap.size w2 w2.drew := (Below.refl _ _).drew
      have hk3 := hk2.after hbd2
      have hz3 := hz2.after hbd2
      have HBd3 := Lib.hid (hbw2.trans (hbd2.mono hbw2.size))
      have hne : w1.heap.size ≠ w.heap.size := by have := hb01.size; have := HZ0.out; omega
      have HS2 : Hid (∀ W, Below w.heap.size w W → Blk W w1.heap.size #[.int .i64 r0, .bool false, .int .i64 x9, .int .i64 r1, .int .i64 r2, .int .i64 r3, .int .i64 x30] 26 → W.cell? ⟨b, o + 8, none⟩ = some (.int .u8 0) ∧ W.cell? ⟨w1.heap.size, 0, none⟩ = some (.int .i64 r0) ∧ W.cell? ⟨w1.heap.size, 1, none⟩ = some (.bool false) ∧ W.cell? ⟨w1.heap.size, 2, none⟩ = some (.int .i64 x9) ∧ W.cell? ⟨w1.heap.size, 3, none⟩ = some (.int .i64 r1) ∧ W.cell? ⟨w1.heap.size, 4, none⟩ = some (.int .i64 r2) ∧ W.cell? ⟨w1.heap.size, 5, none⟩ = some (.int .i64 r3) ∧ W.cell? ⟨w1.heap.size, 6, none⟩ = some (.int .i64 x30)) := fun W hW h => ⟨(HSS.out W hW).1, h.cell 0 rfl, h.cell 1 rfl, h.cell 2 rfl, h.cell 3 rfl, h.cell 4 rfl, h.cell 5 rfl, h.cell 6 rfl⟩
      refine hL_start (fun W => W.cell? ⟨b, o + 8, none⟩ = some (.int .u8 0) ∧ W.cell? ⟨w1.heap.size, 0, none⟩ = some (.int .i64 r0) ∧ W.cell? ⟨w1.heap.size, 1, none⟩ = some (.bool false) ∧ W.cell? ⟨w1.heap.size, 2, none⟩ = some (.int .i64 x9) ∧ W.cell? ⟨w1.heap.size, 3, none⟩ = some (.int .i64 r1) ∧ W.cell? ⟨w1.heap.size, 4, none⟩ = some (.int .i64 r2) ∧ W.cell? ⟨w1.heap.size, 5, none⟩ = some (.int .i64 r3) ∧ W.cell? ⟨w1.heap.size, 6, none⟩ = some (.int .i64 x30)) (by kernel_rfl) ?_
      have hSd2 := HS2.out _ HBd3.out hk3
      obtain ⟨w3, hw3⟩ : ∃ W, w2.drew = W := ⟨_, rfl⟩
      rw [hw3] at hSd2 hk3 hz3 HBd3 ⊢
      clear hw3 hbd2
      refine hL_take (i := 0) (v := ?_) rfl (by kernel_rfl) (fun _ _ _ h => h) (by rfl) hSd2 ?_ ?_
      rotate_left 1
      · intro wS hSw
        obtain ⟨p8, p0, p1, p2, p3, p4, p5, p6⟩ := hSw
        go_simp
        try with_reducible rfl
      try simp only [Act.put, List.setIfInBounds_toArray, List.set_cons_zero, List.set_cons_succ]
      refine hL_take (i := 1) (v := ?_) rfl (by kernel_rfl) (fun _ _ _ h => h) (by rfl) hSd2 ?_ ?_
      rotate_left 1
      · intro wS hSw
        obtain ⟨p8, p0, p1, p2, p3, p4, p5, p6⟩ := hSw
        go_simp
        try with_reducible rfl
      try simp only [Act.put, List.setIfInBounds_toArray, List.set_cons_zero, List.set_cons_succ]
      refine hL_take (i := 2) (v := ?_) rfl (by kernel_rfl) (fun _ _ _ h => h) (by rfl) hSd2 ?_ ?_
      rotate_left 1
      · intro wS hSw
        obtain ⟨p8, p0, p1, p2, p3, p4, p5, p6⟩ := hSw
        go_simp
        try with_reducible rfl
      try simp only [Act.put, List.setIfInBounds_toArray, List.set_cons_zero, List.set_cons_succ]
      refine hL_take (i := 3) (v := ?_) rfl (by kernel_rfl) (fun _ _ _ h => h) (by rfl) hSd2 ?_ ?_
      rotate_left 1
      · intro wS hSw
        obtain ⟨p8, p0, p1, p2, p3, p4, p5, p6⟩ := hSw
        go_simp
        try with_reducible rfl
      try simp only [Act.put, List.setIfInBounds_toArray, List.set_cons_zero, List.set_cons_succ]
      refine hL_take (i := 4) (v := ?_) rfl (by kernel_rfl) (fun _ _ _ h => h) (by rfl) hSd2 ?_ ?_
      rotate_left 1
      · intro wS hSw
        obtain ⟨p8, p0, p1, p2, p3, p4, p5, p6⟩ := hSw
        go_simp
        try with_reducible rfl
      try simp only [Act.put, List.setIfInBounds_toArray, List.set_cons_zero, List.set_cons_succ]
      refine hL_take (i := 5) (v := ?_) rfl (by kernel_rfl) (fun _ _ _ h => h) (by rfl) hSd2 ?_ ?_
      rotate_left 1
      · intro wS hSw
        obtain ⟨p8, p0, p1, p2, p3, p4, p5, p6⟩ := hSw
        go_simp
        try with_reducible rfl
      try simp only [Act.put, List.setIfInBounds_toArray, List.set_cons_zero, List.set_cons_succ]
      refine hL_take (i := 6) (v := ?_) rfl (by kernel_rfl) (fun _ _ _ h => h) (by rfl) hSd2 ?_ ?_
      rotate_left 1
      · intro wS hSw
        obtain ⟨p8, p0, p1, p2, p3, p4, p5, p6⟩ := hSw
        go_simp
        try with_reducible rfl
      try simp only [Act.put, List.setIfInBounds_toArray, List.set_cons_zero, List.set_cons_succ]
      refine hL_take (i := 7) (v := ?_) rfl (by kernel_rfl) (fun _ _ _ h => h) (by rfl) hSd2 ?_ ?_
      rotate_left 1
      · intro wS hSw
        obtain ⟨p8, p0, p1, p2, p3, p4, p5, p6⟩ := hSw
        go_simp
        try with_reducible rfl
      try simp only [Act.put, List.setIfInBounds_toArray, List.set_cons_zero, List.set_cons_succ]
      refine hL_take (i := 8) (v := ?_) rfl (by kernel_rfl) (fun _ _ _ h => h) (by rfl) hSd2 ?_ ?_
      rotate_left 1
      · intro wS hSw
        obtain ⟨p8, p0, p1, p2, p3, p4, p5, p6⟩ := hSw
        go_simp
        try with_reducible rfl
      try simp only [Act.put, List.setIfInBounds_toArray, List.set_cons_zero, List.set_cons_succ]
      refine hL_take (i := 9) (v := ?_) rfl (by kernel_rfl) (fun _ _ _ h => h) (by rfl) hSd2 ?_ ?_
      rotate_left 1
      · intro wS hSw
        obtain ⟨p8, p0, p1, p2, p3, p4, p5, p6⟩ := hSw
        go_simp
        try with_reducible rfl
      try simp only [Act.put, List.setIfInBounds_toArray, List.set_cons_zero, List.set_cons_succ]
      have b0 : w3.cell? ⟨w.heap.size, 0, none⟩ = some (.int .i64 0) := (hz3).cell 0 rfl
      have b1 : w3.cell? ⟨w.heap.size, 1, none⟩ = some (.bool false) := (hz3).cell 1 rfl
      have b2 : w3.cell? ⟨w.heap.size, 2, none⟩ = some (.int .i64 0) := (hz3).cell 2 rfl
      have b3 : w3.cell? ⟨w.heap.size, 3, none⟩ = some (.int .i64 0) := (hz3).cell 3 rfl
      have b4 : w3.cell? ⟨w.heap.size, 4, none⟩ = some (.int .i64 0) := (hz3).cell 4 rfl
      have b5 : w3.cell? ⟨w.heap.size, 5, none⟩ = some (.int .i64 0) := (hz3).cell 5 rfl
      have b6 : w3.cell? ⟨w.heap.size, 6, none⟩ = some (.int .i64 0) := (hz3).cell 6 rfl
      have f0 := (hz3).free 0
      have f1 := (hz3).free 1
      have f2 := (hz3).free 2
      have f3 := (hz3).free 3
      have f4 := (hz3).free 4
      have f5 := (hz3).free 5
      have f6 := (hz3).free 6
      refine hL_next (i := 10) rfl (by kernel_rfl) (fun K hK => ?_)
      go_simp
      have hk4 := put7_far hk3 hne ⟨r0, false, x9, r1, r2, r3, x30⟩
      have kz := put7_blk (u := ⟨0, false, 0, 0, 0, 0, 0⟩) hz3 ⟨r0, false, x9, r1, r2, r3, x30⟩
      have hBz := put7_below HBd3.out (Nat.le_refl w.heap.size) ⟨r0, false, x9, r1, r2, r3, x30⟩
      simp only [put7] at hk4 kz hBz
      have hSd4 := HS2.out _ hBz hk4
      refine hK.out _ _ (hSd4) ?_
      clear hK K
      try simp only [Act.put, List.setIfInBounds_toArray, List.set_cons_zero, List.set_cons_succ]
      refine hL_take (i := 11) (v := ?_) rfl (by kernel_rfl) (fun _ _ _ h => h) (by rfl) hSd4 ?_ ?_
      rotate_left 1
      · intro wS hSw
        obtain ⟨p8, p0, p1, p2, p3, p4, p5, p6⟩ := hSw
        go_simp
        try with_reducible rfl
      try simp only [Act.put, List.setIfInBounds_toArray, List.set_cons_zero, List.set_cons_succ]
      refine wpAnyH_done (by kernel_rfl) ?_ _
      have e0 := kz.cell 0 rfl
      have e1 := kz.cell 1 rfl
      have e2 := kz.cell 2 rfl
      have e3 := kz.cell 3 rfl
      have e4 := kz.cell 4 rfl
      have e5 := kz.cell 5 rfl
      have e6 := kz.cell 6 rfl
      go_wp2_with fail
      refine bodyPost_ret (v := .tuple #[.agg (encS ⟨r0, false, x9, r1, r2, r3, x30⟩).toArray, .bool (x30 == 0)]) (by simp [results, Try.results43, go_sem, e0, e1, e2, e3, e4, e5, e6, encS]) rfl ⟨?_, hBz⟩
      rw [HV.out, HD.out]
      rw [d1, if_neg h1]; simp
    · have d0 : (x8 == 0) = false := by simpa using h0
      go_enter Try.func43, Try.ntmps43
      go_wp2_with fail
      rw [HW0.out]
      refine hL_start (fun W => W.cell? ⟨b, o + 8, none⟩ = some (.int .u8 x8) ∧ W.cell? ⟨b, o + 9, none⟩ = some (.int .u8 x9) ∧ W.cell? ⟨b, o + 30, none⟩ = some (.int .u8 x30) ∧ Below w.heap.size w W) (by kernel_rfl) ?_
      have hSd := HSS.out _ hbd
      refine hL_take (i := 0) (v := ?_) rfl (by kernel_rfl) (fun _ _ _ h => h) (by rfl) hSd ?_ ?_
      rotate_left 1
      · intro wS hSw
        obtain ⟨p8, p9, p30, pW⟩ := hSw
        go_simp
        try with_reducible rfl
      try simp only [Act.put, List.setIfInBounds_toArray, List.set_cons_zero, List.set_cons_succ]
      refine hL_take (i := 1) (v := ?_) rfl (by kernel_rfl) (fun _ _ _ h => h) (by rfl) hSd ?_ ?_
      rotate_left 1
      · intro wS hSw
        obtain ⟨p8, p9, p30, pW⟩ := hSw
        go_simp
        try with_reducible rfl
      try simp only [Act.put, List.setIfInBounds_toArray, List.set_cons_zero, List.set_cons_succ]
      refine hL_call (i := 2) (v := ?_) rfl (by kernel_rfl) (fun _ _ _ h => h) (by rfl) hSd ?_ ?_
      rotate_left 1
      · intro wS hSw
        obtain ⟨p8, p9, p30, pW⟩ := hSw
        go_simp
        with_reducible exact R0.out _ pW
      try simp only [Act.put, List.setIfInBounds_toArray, List.set_cons_zero, List.set_cons_succ]
      refine hL_take (i := 3) (v := ?_) rfl (by kernel_rfl) (fun _ _ _ h => h) (by rfl) hSd ?_ ?_
      rotate_left 1
      · intro wS hSw
        obtain ⟨p8, p9, p30, pW⟩ := hSw
        go_simp
        try with_reducible rfl
      try simp only [Act.put, List.setIfInBounds_toArray, List.set_cons_zero, List.set_cons_succ]
      refine hL_take (i := 4) (v := ?_) rfl (by kernel_rfl) (fun _ _ _ h => h) (by rfl) hSd ?_ ?_
      rotate_left 1
      · intro wS hSw
        obtain ⟨p8, p9, p30, pW⟩ := hSw
        go_simp
        try with_reducible rfl
      try simp only [Act.put, List.setIfInBounds_toArray, List.set_cons_zero, List.set_cons_succ]
      refine hL_take (i := 5) (v := ?_) rfl (by kernel_rfl) (fun _ _ _ h => h) (by rfl) hSd ?_ ?_
      rotate_left 1
      · intro wS hSw
        obtain ⟨p8, p9, p30, pW⟩ := hSw
        go_simp
        try with_reducible rfl
      try simp only [Act.put, List.setIfInBounds_toArray, List.set_cons_zero, List.set_cons_succ]
      refine hL_take (i := 6) (v := ?_) rfl (by kernel_rfl) (fun _ _ _ h => h) (by rfl) hSd ?_ ?_
      rotate_left 1
      · intro wS hSw
        obtain ⟨p8, p9, p30, pW⟩ := hSw
        go_simp
        try with_reducible rfl
      try simp only [Act.put, List.setIfInBounds_toArray, List.set_cons_zero, List.set_cons_succ]
      refine hL_take (i := 7) (v := ?_) rfl (by kernel_rfl) (fun _ _ _ h => h) (by rfl) hSd ?_ ?_
      rotate_left 1
      · intro wS hSw
        obtain ⟨p8, p9, p30, pW⟩ := hSw
        go_simp
        try with_reducible rfl
      try simp only [Act.put, List.setIfInBounds_toArray, List.set_cons_zero, List.set_cons_succ]
      refine hL_take (i := 8) (v := ?_) rfl (by kernel_rfl) (fun _ _ _ h => h) (by rfl) hSd ?_ ?_
      rotate_left 1
      · intro wS hSw
        obtain ⟨p8, p9, p30, pW⟩ := hSw
        go_simp
        try with_reducible rfl
      try simp only [Act.put, List.setIfInBounds_toArray, List.set_cons_zero, List.set_cons_succ]
      refine hL_take (i := 9) (v := ?_) rfl (by kernel_rfl) (fun _ _ _ h => h) (by rfl) hSd ?_ ?_
      rotate_left 1
      · intro wS hSw
        obtain ⟨p8, p9, p30, pW⟩ := hSw
        go_simp
        try with_reducible rfl
      try simp only [Act.put, List.setIfInBounds_toArray, List.set_cons_zero, List.set_cons_succ]
      refine hL_take (i := 10) (v := ?_) rfl (by kernel_rfl) (fun _ _ _ h => h) (by rfl) hSd ?_ ?_
      rotate_left 1
      · intro wS hSw
        obtain ⟨p8, p9, p30, pW⟩ := hSw
        go_simp
        try with_reducible rfl
      try simp only [Act.put, List.setIfInBounds_toArray, List.set_cons_zero, List.set_cons_succ]
      refine hL_take (i := 11) (v := ?_) rfl (by kernel_rfl) (fun _ _ _ h => h) (by rfl) hSd ?_ ?_
      rotate_left 1
      · intro wS hSw
        obtain ⟨p8, p9, p30, pW⟩ := hSw
        go_simp
        try with_reducible rfl
      try simp only [Act.put, List.setIfInBounds_toArray, List.set_cons_zero, List.set_cons_succ]
      refine hL_take (i := 12) (v := ?_) rfl (by kernel_rfl) (fun _ _ _ h => h) (by rfl) hSd ?_ ?_
      rotate_left 1
      · intro wS hSw
        obtain ⟨p8, p9, p30, pW⟩ := hSw
        go_simp
        try with_reducible rfl
      try simp only [Act.put, List.setIfInBounds_toArray, List.set_cons_zero, List.set_cons_succ]
      refine hL_call (i := 13) (v := ?_) rfl (by kernel_rfl) (fun _ _ _ h => h) (by rfl) hSd ?_ ?_
      rotate_left 1
      · intro wS hSw
        obtain ⟨p8, p9, p30, pW⟩ := hSw
        go_simp
        with_reducible exact R1.out _ pW
      try simp only [Act.put, List.setIfInBounds_toArray, List.set_cons_zero, List.set_cons_succ]
      refine hL_take (i := 14) (v := ?_) rfl (by kernel_rfl) (fun _ _ _ h => h) (by rfl) hSd ?_ ?_
      rotate_left 1
      · intro wS hSw
        obtain ⟨p8, p9, p30, pW⟩ := hSw
        go_simp
        try with_reducible rfl
      try simp only [Act.put, List.setIfInBounds_toArray, List.set_cons_zero, List.set_cons_succ]
      refine hL_take (i := 15) (v := ?_) rfl (by kernel_rfl) (fun _ _ _ h => h) (by rfl) hSd ?_ ?_
      rotate_left 1
      · intro wS hSw
        obtain ⟨p8, p9, p30, pW⟩ := hSw
        go_simp
        try with_reducible rfl
      try simp only [Act.put, List.setIfInBounds_toArray, List.set_cons_zero, List.set_cons_succ]
      refine hL_call (i := 16) (v := ?_) rfl (by kernel_rfl) (fun _ _ _ h => h) (by rfl) hSd ?_ ?_
      rotate_left 1
      · intro wS hSw
        obtain ⟨p8, p9, p30, pW⟩ := hSw
        go_simp
        with_reducible exact R2.out _ pW
      try simp only [Act.put, List.setIfInBounds_toArray, List.set_cons_zero, List.set_cons_succ]
      refine hL_take (i := 17) (v := ?_) rfl (by kernel_rfl) (fun _ _ _ h => h) (by rfl) hSd ?_ ?_
      rotate_left 1
      · intro wS hSw
        obtain ⟨p8, p9, p30, pW⟩ := hSw
        go_simp
        try with_reducible rfl
      try simp only [Act.put, List.setIfInBounds_toArray, List.set_cons_zero, List.set_cons_succ]
      refine hL_take (i := 18) (v := ?_) rfl (by kernel_rfl) (fun _ _ _ h => h) (by rfl) hSd ?_ ?_
      rotate_left 1
      · intro wS hSw
        obtain ⟨p8, p9, p30, pW⟩ := hSw
        go_simp
        try with_reducible rfl
      try simp only [Act.put, List.setIfInBounds_toArray, List.set_cons_zero, List.set_cons_succ]
      refine hL_call (i := 19) (v := ?_) rfl (by kernel_rfl) (fun _ _ _ h => h) (by rfl) hSd ?_ ?_
      rotate_left 1
      · intro wS hSw
        obtain ⟨p8, p9, p30, pW⟩ := hSw
        go_simp
        with_reducible exact R3.out _ pW
      try simp only [Act.put, List.setIfInBounds_toArray, List.set_cons_zero, List.set_cons_succ]
      refine hL_take (i := 20) (v := ?_) rfl (by kernel_rfl) (fun _ _ _ h => h) (by rfl) hSd ?_ ?_
      rotate_left 1
      · intro wS hSw
        obtain ⟨p8, p9, p30, pW⟩ := hSw
        go_simp
        try with_reducible rfl
      try simp only [Act.put, List.setIfInBounds_toArray, List.set_cons_zero, List.set_cons_succ]
      refine hL_take (i := 21) (v := ?_) rfl (by kernel_rfl) (fun _ _ _ h => h) (by rfl) hSd ?_ ?_
      rotate_left 1
      · intro wS hSw
        obtain ⟨p8, p9, p30, pW⟩ := hSw
        go_simp
        try with_reducible rfl
      try simp only [Act.put, List.setIfInBounds_toArray, List.set_cons_zero, List.set_cons_succ]
      refine hL_take (i := 22) (v := ?_) rfl (by kernel_rfl) (fun _ _ _ h => h) (by rfl) hSd ?_ ?_
      rotate_left 1
      · intro wS hSw
        obtain ⟨p8, p9, p30, pW⟩ := hSw
        go_simp
        try with_reducible rfl
      try simp only [Act.put, List.setIfInBounds_toArray, List.set_cons_zero, List.set_cons_succ]
      refine hL_take (i := 23) (v := ?_) rfl (by kernel_rfl) (fun _ _ _ h => h) (by rfl) hSd ?_ ?_
      rotate_left 1
      · intro wS hSw
        obtain ⟨p8, p9, p30, pW⟩ := hSw
        go_simp
        try with_reducible rfl
      try simp only [Act.put, List.setIfInBounds_toArray, List.set_cons_zero, List.set_cons_succ]
      refine hL_take (i := 24) (v := ?_) rfl (by kernel_rfl) (fun _ _ _ h => h) (by rfl) hSd ?_ ?_
      rotate_left 1
      · intro wS hSw
        obtain ⟨p8, p9, p30, pW⟩ := hSw
        go_simp
        try with_reducible rfl
      try simp only [Act.put, List.setIfInBounds_toArray, List.set_cons_zero, List.set_cons_succ]
      refine hL_take (i := 25) (v := ?_) rfl (by kernel_rfl) (fun _ _ _ h => h) (by rfl) hSd ?_ ?_
      rotate_left 1
      · intro wS hSw
        obtain ⟨p8, p9, p30, pW⟩ := hSw
        go_simp
        try with_reducible rfl
      try simp only [Act.put, List.setIfInBounds_toArray, List.set_cons_zero, List.set_cons_succ]
      obtain ⟨w1, hw1⟩ : ∃ W, w0.drew = W := ⟨_, rfl⟩
      have hb01 : Below w0.heap.size w0 w1 := by rw [← hw1]; exact (Below.refl _ _).drew
      rw [hw1] at hbd ⊢
      clear hw1
      refine hL_next (i := 26) rfl (by kernel_rfl) (fun K hK => ?_)
      go_simp
      refine hK.out _ _ (HSS.out _ (hbd.trans ((((Below.refl _ _).alloc (Nat.le_refl _) _)).mono hbd.size))) ?_
      clear hK K
      try simp only [Act.put, List.setIfInBounds_toArray, List.set_cons_zero, List.set_cons_succ]
      refine hL_next (i := 27) rfl (by kernel_rfl) (fun K hK => ?_)
      go_simp
      obtain ⟨w2, hw2⟩ : ∃ W, w1.alloc (.cells #[.int .i64 r0, .bool false, .int .i64 x9, .int .i64 r1, .int .i64 r2, .int .i64 r3, .int .i64 x30] 26) = W := ⟨_, rfl⟩
      have hb12 : Below w1.heap.size w1 w2 := by rw [← hw2]; exact (Below.refl _ _).alloc (Nat.le_refl _) _
      have hk2 : Blk w2 w1.heap.size #[.int .i64 r0, .bool false, .int .i64 x9, .int .i64 r1, .int .i64 r2, .int .i64 r3, .int .i64 x30] 26 := by rw [← hw2]; exact Blk.new _ _ _
      have HW2 := Lib.hid hw2
      have hbw2 := hbd.trans (hb12.mono hbd.size)
      have hz2 := HK0.out.after (hb01.trans (hb12.mono hb01.size))
      rw [hw2]
      clear hw2
      refine hK.out _ _ (HSS.out _ hbw2) ?_
      clear hK K
      try simp only [Act.put, List.setIfInBounds_toArray, List.set_cons_zero, List.set_cons_succ]
      refine wpAnyH_done (by kernel_rfl) ?_ _
      have t1 : w2.cell? ⟨w1.heap.size, 1, none⟩ = some (.bool false) := hk2.cell 1 rfl
      go_wp2_with fail
      clear t1
      have hbd2 : Below w2.heap.size w2 w2.drew := (Below.refl _ _).drew
      have hk3 := hk2.after hbd2
      have hz3 := hz2.after hbd2
      have HBd3 := Lib.hid (hbw2.trans (hbd2.mono hbw2.size))
      have hne : w1.heap.size ≠ w.heap.size := by have := hb01.size; have := HZ0.out; omega
      have HS2 : Hid (∀ W, Below w.heap.size w W → Blk W w1.heap.size #[.int .i64 r0, .bool false, .int .i64 x9, .int .i64 r1, .int .i64 r2, .int .i64 r3, .int .i64 x30] 26 → W.cell? ⟨b, o + 8, none⟩ = some (.int .u8 x8) ∧ W.cell? ⟨w1.heap.size, 0, none⟩ = some (.int .i64 r0) ∧ W.cell? ⟨w1.heap.size, 1, none⟩ = some (.bool false) ∧ W.cell? ⟨w1.heap.size, 2, none⟩ = some (.int .i64 x9) ∧ W.cell? ⟨w1.heap.size, 3, none⟩ = some (.int .i64 r1) ∧ W.cell? ⟨w1.heap.size, 4, none⟩ = some (.int .i64 r2) ∧ W.cell? ⟨w1.heap.size, 5, none⟩ = some (.int .i64 r3) ∧ W.cell? ⟨w1.heap.size, 6, none⟩ = some (.int .i64 x30)) := fun W hW h => ⟨(HSS.out W hW).1, h.cell 0 rfl, h.cell 1 rfl, h.cell 2 rfl, h.cell 3 rfl, h.cell 4 rfl, h.cell 5 rfl, h.cell 6 rfl⟩
      refine hL_start (fun W => W.cell? ⟨b, o + 8, none⟩ = some (.int .u8 x8) ∧ W.cell? ⟨w1.heap.size, 0, none⟩ = some (.int .i64 r0) ∧ W.cell? ⟨w1.heap.size, 1, none⟩ = some (.bool false) ∧ W.cell? ⟨w1.heap.size, 2, none⟩ = some (.int .i64 x9) ∧ W.cell? ⟨w1.heap.size, 3, none⟩ = some (.int .i64 r1) ∧ W.cell? ⟨w1.heap.size, 4, none⟩ = some (.int .i64 r2) ∧ W.cell? ⟨w1.heap.size, 5, none⟩ = some (.int .i64 r3) ∧ W.cell? ⟨w1.heap.size, 6, none⟩ = some (.int .i64 x30)) (by kernel_rfl) ?_
      have hSd2 := HS2.out _ HBd3.out hk3
      obtain ⟨w3, hw3⟩ : ∃ W, w2.drew = W := ⟨_, rfl⟩
      rw [hw3] at hSd2 hk3 hz3 HBd3 ⊢
      clear hw3 hbd2
      refine hL_take (i := 0) (v := ?_) rfl (by kernel_rfl) (fun _ _ _ h => h) (by rfl) hSd2 ?_ ?_
      rotate_left 1
      · intro wS hSw
        obtain ⟨p8, p0, p1, p2, p3, p4, p5, p6⟩ := hSw
        go_simp
        try with_reducible rfl
      try simp only [Act.put, List.setIfInBounds_toArray, List.set_cons_zero, List.set_cons_succ]
      refine hL_take (i := 1) (v := ?_) rfl (by kernel_rfl) (fun _ _ _ h => h) (by rfl) hSd2 ?_ ?_
      rotate_left 1
      · intro wS hSw
        obtain ⟨p8, p0, p1, p2, p3, p4, p5, p6⟩ := hSw
        go_simp
        try with_reducible rfl
      try simp only [Act.put, List.setIfInBounds_toArray, List.set_cons_zero, List.set_cons_succ]
      refine hL_take (i := 2) (v := ?_) rfl (by kernel_rfl) (fun _ _ _ h => h) (by rfl) hSd2 ?_ ?_
      rotate_left 1
      · intro wS hSw
        obtain ⟨p8, p0, p1, p2, p3, p4, p5, p6⟩ := hSw
        go_simp
        try with_reducible rfl
      try simp only [Act.put, List.setIfInBounds_toArray, List.set_cons_zero, List.set_cons_succ]
      refine hL_take (i := 3) (v := ?_) rfl (by kernel_rfl) (fun _ _ _ h => h) (by rfl) hSd2 ?_ ?_
      rotate_left 1
      · intro wS hSw
        obtain ⟨p8, p0, p1, p2, p3, p4, p5, p6⟩ := hSw
        go_simp
        try with_reducible rfl
      try simp only [Act.put, List.setIfInBounds_toArray, List.set_cons_zero, List.set_cons_succ]
      refine hL_take (i := 4) (v := ?_) rfl (by kernel_rfl) (fun _ _ _ h => h) (by rfl) hSd2 ?_ ?_
      rotate_left 1
      · intro wS hSw
        obtain ⟨p8, p0, p1, p2, p3, p4, p5, p6⟩ := hSw
        go_simp
        try with_reducible rfl
      try simp only [Act.put, List.setIfInBounds_toArray, List.set_cons_zero, List.set_cons_succ]
      refine hL_take (i := 5) (v := ?_) rfl (by kernel_rfl) (fun _ _ _ h => h) (by rfl) hSd2 ?_ ?_
      rotate_left 1
      · intro wS hSw
        obtain ⟨p8, p0, p1, p2, p3, p4, p5, p6⟩ := hSw
        go_simp
        try with_reducible rfl
      try simp only [Act.put, List.setIfInBounds_toArray, List.set_cons_zero, List.set_cons_succ]
      refine hL_skip (i := 6) rfl (by kernel_rfl) (fun _ _ _ h => h) (by rfl) hSd2 ?_
      try simp only [Act.put, List.setIfInBounds_toArray, List.set_cons_zero, List.set_cons_succ]
      refine hL_skip (i := 7) rfl (by kernel_rfl) (fun _ _ _ h => h) (by rfl) hSd2 ?_
      try simp only [Act.put, List.setIfInBounds_toArray, List.set_cons_zero, List.set_cons_succ]
      refine hL_skip (i := 8) rfl (by kernel_rfl) (fun _ _ _ h => h) (by rfl) hSd2 ?_
      try simp only [Act.put, List.setIfInBounds_toArray, List.set_cons_zero, List.set_cons_succ]
      refine hL_take (i := 9) (v := ?_) rfl (by kernel_rfl) (fun _ _ _ h => h) (by rfl) hSd2 ?_ ?_
      rotate_left 1
      · intro wS hSw
        obtain ⟨p8, p0, p1, p2, p3, p4, p5, p6⟩ := hSw
        go_simp
        try with_reducible rfl
      try simp only [Act.put, List.setIfInBounds_toArray, List.set_cons_zero, List.set_cons_succ]
      have b0 : w3.cell? ⟨w.heap.size, 0, none⟩ = some (.int .i64 0) := (hz3).cell 0 rfl
      have b1 : w3.cell? ⟨w.heap.size, 1, none⟩ = some (.bool false) := (hz3).cell 1 rfl
      have b2 : w3.cell? ⟨w.heap.size, 2, none⟩ = some (.int .i64 0) := (hz3).cell 2 rfl
      have b3 : w3.cell? ⟨w.heap.size, 3, none⟩ = some (.int .i64 0) := (hz3).cell 3 rfl
      have b4 : w3.cell? ⟨w.heap.size, 4, none⟩ = some (.int .i64 0) := (hz3).cell 4 rfl
      have b5 : w3.cell? ⟨w.heap.size, 5, none⟩ = some (.int .i64 0) := (hz3).cell 5 rfl
      have b6 : w3.cell? ⟨w.heap.size, 6, none⟩ = some (.int .i64 0) := (hz3).cell 6 rfl
      have f0 := (hz3).free 0
      have f1 := (hz3).free 1
      have f2 := (hz3).free 2
      have f3 := (hz3).free 3
      have f4 := (hz3).free 4
      have f5 := (hz3).free 5
      have f6 := (hz3).free 6
      refine hL_next (i := 10) rfl (by kernel_rfl) (fun K hK => ?_)
      go_simp
      have hk4 := put7_far hk3 hne ⟨r0, false, x9, r1, r2, r3, x30⟩
      have kz := put7_blk (u := ⟨0, false, 0, 0, 0, 0, 0⟩) hz3 ⟨r0, false, x9, r1, r2, r3, x30⟩
      have hBz := put7_below HBd3.out (Nat.le_refl w.heap.size) ⟨r0, false, x9, r1, r2, r3, x30⟩
      simp only [put7] at hk4 kz hBz
      have hSd4 := HS2.out _ hBz hk4
      refine hK.out _ _ (hSd4) ?_
      clear hK K
      try simp only [Act.put, List.setIfInBounds_toArray, List.set_cons_zero, List.set_cons_succ]
      refine hL_take (i := 11) (v := ?_) rfl (by kernel_rfl) (fun _ _ _ h => h) (by rfl) hSd4 ?_ ?_
      rotate_left 1
      · intro wS hSw
        obtain ⟨p8, p0, p1, p2, p3, p4, p5, p6⟩ := hSw
        go_simp
        try with_reducible rfl
      try simp only [Act.put, List.setIfInBounds_toArray, List.set_cons_zero, List.set_cons_succ]
      refine wpAnyH_done (by kernel_rfl) ?_ _
      have e0 := kz.cell 0 rfl
      have e1 := kz.cell 1 rfl
      have e2 := kz.cell 2 rfl
      have e3 := kz.cell 3 rfl
      have e4 := kz.cell 4 rfl
      have e5 := kz.cell 5 rfl
      have e6 := kz.cell 6 rfl
      go_wp2_with fail
      refine bodyPost_ret (v := .tuple #[.agg (encS ⟨r0, false, x9, r1, r2, r3, x30⟩).toArray, .bool false]) (by simp [results, Try.results43, go_sem, e0, e1, e2, e3, e4, e5, e6, encS]) rfl ⟨?_, hBz⟩
      rw [HV.out, HD.out]
      rw [d1, if_neg h1, d0]; simp

end Go.Proofs.Ytkloijkfaooodaa
