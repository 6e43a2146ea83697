/- The document's Bytes. -/
import Derived.Test.YtkloijkfaooodaaBitCb
import Derived.Test.YtkloijkfaooodaaBitZ
namespace Go.Proofs.Ytkloijkfaooodaa
open Go.RowKit Go.Shelf
set_option linter.unusedVariables false
set_option linter.unusedSimpArgs false

theorem and255 (z : Int) : bits BinOp.and IntKind.i64 z 255 = z % 256 := by
  show IntKind.i64.wrap ((BitVec.ofInt 64 z &&& BitVec.ofInt 64 255).toNat : Int) = _
  have hm : (BitVec.ofInt 64 z).toNat = (z % 18446744073709551616).toNat := by
    rw [BitVec.toNat_ofInt]
    rfl
  have hx : (BitVec.ofInt 64 255).toNat = 255 := rfl
  rw [BitVec.toNat_and, hm, hx]
  have hand : (z % 18446744073709551616).toNat &&& 255 = (z % 18446744073709551616).toNat % 256 := Nat.and_two_pow_sub_one_eq_mod _ 8
  rw [hand, IntKind.wrap_i64]
  omega
theorem pairs_get (v : Vs) (i : Nat) (hi : i < 7) : ∃ y, (pairsV v)[i]? = some (y, szN i) ∧ (encR v).toArray[i]? = some (.int .i64 y) := by
  have hi7 : i < 7 := hi
  match i, hi7 with
  | 0, _ => exact ⟨_, rfl, rfl⟩
  | 1, _ => exact ⟨_, rfl, rfl⟩
  | 2, _ => exact ⟨_, rfl, rfl⟩
  | 3, _ => exact ⟨_, rfl, rfl⟩
  | 4, _ => exact ⟨_, rfl, rfl⟩
  | 5, _ => exact ⟨_, rfl, rfl⟩
  | 6, _ => exact ⟨_, rfl, rfl⟩
set_option maxHeartbeats 4000000 in
set_option maxRecDepth 100000 in
theorem rbytes_ok (v : Vs) (w : World) : Calls Try.prog 24 #[.agg (encR v).toArray] w (RowB w w.heap.size (bytesV v)) := by
  obtain ⟨i0, hi, hi0, hi1, hi2⟩ := info_parts infoU8
  obtain ⟨w0, hw0⟩ : ∃ W, (w.alloc (.cells (encR v).toArray 56)).alloc (.cells #[.int .i64 8, .int .i64 1, .int .i64 1, .int .i64 4, .int .i64 8, .int .i64 8, .int .i64 1] 3) = W := ⟨_, rfl⟩
  have hb0 : Below w.heap.size w w0 := by rw [← hw0]; exact ((Below.refl _ _).alloc (Nat.le_refl _) _).alloc (by simp) _
  have z0 : w0.heap.size = w.heap.size + 2 := by rw [← hw0]; simp
  have hkv : Blk w0 w.heap.size (encR v).toArray 56 := by rw [← hw0]; exact (Blk.new _ _ _).alloc _
  have hks : Blk w0 (w.heap.size + 1) #[.int .i64 8, .int .i64 1, .int .i64 1, .int .i64 4, .int .i64 8, .int .i64 8, .int .i64 1] 3 := by
    rw [← hw0]
    have := Blk.new (w.alloc (.cells (encR v).toArray 56)) #[.int .i64 8, .int .i64 1, .int .i64 1, .int .i64 4, .int .i64 8, .int .i64 8, .int .i64 1] 3
    rw [World.size_alloc] at this
    exact this
  have HPg := Lib.hid (pairs_get v)
  obtain ⟨Pv, hPv⟩ : ∃ Pp, pairsV v = Pp := ⟨_, rfl⟩
  have HBy : Hid (bytesV v = numsL Pv) := by show _ = _; unfold bytesV; rw [hPv]
  have HPl : Hid (Pv.length = 7) := by show _ = _; rw [← hPv]; rfl
  rw [hPv] at HPg
  have HW0 := Lib.hid hw0
  have HB0 := Lib.hid hb0
  have HKV := Lib.hid hkv
  have HKS := Lib.hid hks
  obtain ⟨cs, hcs⟩ : ∃ cs, (encR v).toArray = cs := ⟨_, rfl⟩
  have hcs2 : cs = #[.int .i64 v.s, .int .i64 (kindV v.c), .int .i64 v.k, .int .i64 v.d, .int .i64 v.n, .int .i64 v.m, .int .i64 v.p] := hcs.symm
  rw [hcs] at HPg HKV HW0 ⊢
  clear hw0 hb0 hkv hks hPv hcs
  subst hcs2
  go_enter Try.func24, Try.ntmps24
  go_wp2_with fail
  rw [HW0.out]
  go_loopw [3, 5] (fun u i' wr => ∃ i : Nat, i ≤ 7 ∧ i' = .int .i64 i ∧ Hid (wr.ownsRow w0.heap.size 5 1 u (numsL (Pv.take i)).length (byC (numsL (Pv.take i)))) ∧ Hid ((numsL (Pv.take i)).length ≤ 8 * i) ∧ Hid (Below w0.heap.size w0 wr)) (fun _ i' _ => 7 - (intOf i').toNat)
  case atStart => exact ⟨0, by omega, rfl, World.ownsRow_nil _ _ _ _, (show (numsL []).length ≤ 8 * 0 by simp [numsL]), Below.refl _ _⟩
  case round =>
    obtain ⟨i, hile, rfl, HO, HL, HB⟩ := hrel
    by_cases hlt : i < 7
    · obtain ⟨y, hy1, hy2⟩ := HPg.out i hlt
      have hT : numsL (Pv.take (i + 1)) = numsL (Pv.take i) ++ numB y (szN i) := by
        have hl : i < Pv.length := by have := HPl.out; omega
        have he : Pv[i] = (y, szN i) := by rw [List.getElem?_eq_getElem hl] at hy1; exact Option.some.inj hy1
        rw [List.take_succ_eq_append_getElem hl, he]
        unfold numsL
        rw [List.flatMap_append]
        simp
      have hk8 : szN i ≤ 8 := (st_sz i hlt).2.1
      have hks : wr.cell? ⟨w.heap.size + 1, i, none⟩ = some (.int .i64 (szN i : Int)) := (HKS.out.below HB.out (by omega)).cell i (sizes_get i hlt)
      obtain ⟨k, hk⟩ : ∃ k, szN i = k := ⟨_, rfl⟩
      rw [hk] at hT hk8 hks
      have HT := Lib.hid hT
      have HY2 := Lib.hid hy2
      have i1 : (0 : Int) ≤ (i : Int) := by omega
      have i2 : (i : Int) < 7 := by omega
      obtain ⟨Q, hQ⟩ : ∃ Q, numsL (Pv.take i) = Q := ⟨_, rfl⟩
      rw [hQ] at HO HT HL
      clear hy1 hy2 hT hk hQ
      obtain ⟨wo, rfl⟩ : ∃ wo : World, wo = wr := ⟨_, rfl⟩
      go_wp2_with fail
      clear hks
      go_loopw [3, 6] (fun u k'' wr => ∃ (k' : Nat) (Pp : List Int), k' ≤ k ∧ k'' = .int .i64 ((k' : Int) - 1) ∧ Hid (Pp ++ numB y k' = numB y k) ∧ Hid (wr.ownsRow w0.heap.size 5 1 u (Q ++ Pp).length (byC (Q ++ Pp))) ∧ Hid (Below w0.heap.size w0 wr)) (fun _ k'' _ => (intOf k'' + 1).toNat)
      case atStart => exact ⟨k, [], Nat.le_refl _, rfl, rfl, by rw [List.append_nil]; exact HO.out, HB.out⟩
      case round =>
        obtain ⟨k', Pp, hk', rfl, HP, HOr, HBr⟩ := hrel
        by_cases hkt : 0 < k'
        · obtain ⟨k2, rfl⟩ : ∃ k2, k' = k2 + 1 := ⟨k' - 1, by omega⟩
          have q0 : wr.cell? ⟨w.heap.size, i, none⟩ = some (.int .i64 y) := (HKV.out.below HBr.out (by omega)).cell i HY2.out
          have hPl : Pp.length ≤ 8 := by have := congrArg List.length HP.out; simp [numB_len] at this; omega
          have hQl : Q.length ≤ 56 := by have := HL.out; omega
          have e1 : (((k2 + 1 : Nat) : Int) - 1) = (k2 : Int) := by omega
          rw [e1]
          have hk7 : k2 ≤ 7 := by omega
          have hown := HOr.out
          have hQP : (Q ++ Pp).length ≤ 64 := by rw [List.length_append]; omega
          have zr := HBr.out.size
          obtain ⟨N, hN⟩ : ∃ N, (Q ++ Pp).length = N := ⟨_, rfl⟩
          rw [hN] at hown hQP
          have HN := Lib.hid hN
          have hand := and255 (y / 2 ^ (8 * k2))
          clear hN hPl hQl
          go_wp2_with (at_builtin; refine wpList_append_own _ rfl _ _ 52 rfl w0.heap.size 5 i0 _ 1 1 Try.underlying52 hi hi0 hi1 hi2 rfl (by decide) _ N _ rfl (hown.alloc _) ⟨wr.heap.size, 0, none⟩ 1 1 [.int .u8 (y / 2 ^ (8 * k2) % 256)] rfl rfl (World.news_of_block (cs := #[.int .u8 (y / 2 ^ (8 * k2) % 256)]) (t := 5) (fr := (0, 0)) (heap_alloc_new wr _)) (by simp [Value.oneCell']) (by unfold maxLen; omega) (by omega) (by simp; omega) ?_; intro v' w3 hown' hgrow _)
          have hb3 : Below w0.heap.size w0 w3 := HBr.out.trans (((Below.refl _ _).alloc zr _).grown hgrow (by simp; omega) (fun q e => (own_cells hown e).1))
          have hO3 : Hid (w3.ownsRow w0.heap.size 5 1 v' (Q ++ (Pp ++ [byS y k2])).length (byC (Q ++ (Pp ++ [byS y k2])))) := by
            have e1 : (Q ++ (Pp ++ [byS y k2])).length = N + 1 := by rw [← HN.out]; simp; omega
            have e2 : byC (Q ++ (Pp ++ [byS y k2])) = byC (Q ++ Pp) ++ [.int .u8 (byS y k2)] := by unfold byC; simp
            show World.ownsRow _ _ _ _ _ _ _
            rw [e1, e2]
            exact hown'
          have hP3 : Hid ((Pp ++ [byS y k2]) ++ numB y k2 = numB y k) := by
            show _ = _
            rw [← HP.out, List.append_assoc]
            rfl
          have HB3 := Lib.hid hb3
          clear hown hown' hgrow hb3 q0 hand
          go_wp2_with fail
          go_roundw
          case rel => exact ⟨k2, Pp ++ [byS y k2], by omega, rfl, hP3, hO3, HB3⟩
          case measure => simp [intOf]
        · obtain rfl : k' = 0 := by omega
          have hPe : Pp = numB y k := by have := HP.out; simpa [numB] using this
          have hOe : Hid (wr.ownsRow w0.heap.size 5 1 u3 (numsL (Pv.take (i + 1))).length (byC (numsL (Pv.take (i + 1))))) := by
            show World.ownsRow _ _ _ _ _ _ _
            rw [HT.out, ← hPe]
            exact HOr.out
          have hLe : Hid ((numsL (Pv.take (i + 1))).length ≤ 8 * (i + 1)) := by
            show _ ≤ _
            rw [HT.out, List.length_append, numB_len]
            have := HL.out
            omega
          clear hPe HOr
          go_wp2_with fail
          go_roundw
          case rel => exact ⟨i + 1, by omega, by go_num, hOe, hLe, HBr⟩
          case measure => simp [intOf]; omega
    · obtain rfl : i = 7 := by omega
      rw [List.take_of_length_le (by have := HPl.out; omega)] at HO
      have HE := HBy.out
      go_wp2_with fail
      go_ret
      exact ⟨_, rfl, by rw [HE]; exact own_down HO.out (by omega), HB0.out.trans (HB.out.mono (by omega))⟩

theorem bytes_same (a a' : Option Addr) (cap cap' : Nat) (bs : List Int) (hl : bs.length ≤ 9223372036854775807) (w : World) (h : RecsAt w a 1 encY bs) (h' : RecsAt w a' 1 encY bs) :
    Calls Try.prog 26 #[.slice a bs.length cap, .slice a' bs.length cap'] w fun e w' => e = .returned (.bool true) ∧ Below w.heap.size w w' := by
  have HR := Lib.hid h
  have HR' := Lib.hid h'
  clear h h'
  go_enter Try.func26, Try.ntmps26
  go_wp2_with fail
  go_loopw [5] (fun i wr => ∃ j : Nat, j ≤ bs.length ∧ i = .int .i64 j ∧ Hid (Below w.heap.size w wr)) (fun i _ => bs.length - (intOf i).toNat)
  case atStart => exact ⟨0, by omega, rfl, Below.refl _ _⟩
  case round =>
    obtain ⟨j, hj, rfl, HB⟩ := hrel
    by_cases hlt : j < bs.length
    · have hR : RecsAt wr a 1 encY bs := RowsAt.after HR.out HB.out
      have hR' : RecsAt wr a' 1 encY bs := RowsAt.after HR'.out HB.out
      obtain ⟨b, o, rfl, _⟩ := hR (by omega)
      obtain ⟨b', o', rfl, _⟩ := hR' (by omega)
      have t0 := byte_cell hR j hlt
      have t1 := byte_cell hR' j hlt
      obtain ⟨x, hx⟩ : ∃ x, bs.getD j 0 = x := ⟨_, rfl⟩
      rw [hx] at t0 t1
      have i1 : (0 : Int) ≤ (j : Int) := by omega
      have i2 : (j : Int) < (bs.length : Int) := by omega
      have HB2 : ∀ n, Hid (Below w.heap.size w (wr.drewN n)) := fun n => HB.out.trans ((below_draws wr n).mono HB.out.size)
      clear hR hR' hx
      go_wp2_with (go_quiet (fail))
      go_roundw
      case rel => exact ⟨j + 1, by omega, by go_num, HB2 _⟩
      case measure => simp [intOf]; omega
    · go_wp2_with fail
      go_ret
      exact ⟨rfl, HB.out⟩

end Go.Proofs.Ytkloijkfaooodaa
