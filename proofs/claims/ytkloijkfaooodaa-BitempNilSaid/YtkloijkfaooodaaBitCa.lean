/- Bytes: numbers. -/
import Derived.Test.YtkloijkfaooodaaBitBu
import Derived.Test.YtkloijkfaooodaaBitY
namespace Go.Proofs.Ytkloijkfaooodaa
open Go.RowKit Go.Shelf
set_option linter.unusedVariables false
set_option linter.unusedSimpArgs false

def byS (x : Int) (i : Nat) : Int := x / 2 ^ (8 * i) % 256
def numB (x : Int) : Nat → List Int
  | 0 => []
  | k + 1 => byS x k :: numB x k
theorem numB_len (x : Int) (k : Nat) : (numB x k).length = k := by
  induction k with
  | zero => rfl
  | succ k ih => simp [numB, ih]
def numsL (l : List (Int × Nat)) : List Int := l.flatMap fun x => numB x.1 x.2
def byC (bs : List Int) : List Value := bs.map (Value.int .u8)
def encQ (x : Int × Nat) : List Value := [.int .i64 x.1, .int .i64 (x.2 : Int)]
theorem infoU8 : (Try.prog.info? 5).map (fun i => (i.zero, i.size, i.bytes)) = some (some (.int .u8 0), 1, 1) := by kernel_rfl
def RowB (w : World) (base : Nat) (bs : List Int) (e : Ending) (w' : World) : Prop := ∃ v, e = .returned v ∧ w'.ownsRow base 5 1 v bs.length (byC bs) ∧ Below base w w'
set_option maxHeartbeats 4000000 in
set_option maxRecDepth 100000 in
theorem numbers_ok (a : Option Addr) (cap : Nat) (l : List (Int × Nat)) (hl : l.length ≤ 100) (hk : ∀ x ∈ l, x.2 ≤ 8) (w : World) (h : RecsAt w a 2 encQ l) :
    Calls Try.prog 47 #[.slice a l.length cap] w (RowB w w.heap.size (numsL l)) := by
  obtain ⟨i0, hi, hi0, hi1, hi2⟩ := info_parts infoU8
  have HR := Lib.hid h
  have HK := Lib.hid hk
  clear h hk
  go_enter Try.func47, Try.ntmps47
  go_wp2_with fail
  go_loopw [3, 9] (fun v i wr => ∃ j : Nat, j ≤ l.length ∧ i = .int .i64 j ∧ Hid (wr.ownsRow w.heap.size 5 1 v (numsL (l.take j)).length (byC (numsL (l.take j)))) ∧ Hid ((numsL (l.take j)).length ≤ 8 * j) ∧ Hid (Below w.heap.size w wr)) (fun _ i _ => l.length - (intOf i).toNat)
  case atStart => exact ⟨0, by omega, rfl, World.ownsRow_nil _ _ _ _, (show (numsL []).length ≤ 8 * 0 by simp [numsL]), Below.refl _ _⟩
  case round =>
    obtain ⟨j, hj, rfl, HO, HL, HB⟩ := hrel
    by_cases hlt : j < l.length
    · have hx := List.getElem?_eq_getElem hlt
      obtain ⟨x, hy⟩ : ∃ x, l[j] = x := ⟨_, rfl⟩
      have hxk : x.2 ≤ 8 := by rw [← hy]; exact HK.out _ (List.getElem_mem _)
      have hT : numsL (l.take (j + 1)) = numsL (l.take j) ++ numB x.1 x.2 := by
        rw [List.take_succ_eq_append_getElem hlt, hy]
        unfold numsL
        rw [List.flatMap_append]
        simp
      rw [hy] at hx
      obtain ⟨y, k⟩ := x
      dsimp only at hxk hT
      have HT := Lib.hid hT
      have hRr : RecsAt wr a 2 encQ l := RowsAt.after HR.out HB.out
      obtain ⟨b, o, rfl, _⟩ := hRr (by omega)
      have t0 : wr.cell? ⟨b, o + j * 2, none⟩ = some (.int .i64 y) := RecsAt.cell hRr rfl hlt hx (j := 0) rfl
      have t1 : wr.cell? ⟨b, o + j * 2 + 1, none⟩ = some (.int .i64 (k : Int)) := RecsAt.cell hRr rfl hlt hx (j := 1) rfl
      have i1 : (0 : Int) ≤ (j : Int) := by omega
      have i2 : (j : Int) < (l.length : Int) := by omega
      clear hx hy hT hRr
      obtain ⟨wo, rfl⟩ : ∃ wo : World, wo = wr := ⟨_, rfl⟩
      obtain ⟨w1, hw1⟩ : ∃ W, wo.alloc (.cells #[.int .i64 y, .int .i64 (k : Int)] 107) = W := ⟨_, rfl⟩
      have hb1 : Below wo.heap.size wo w1 := by rw [← hw1]; exact (Below.refl _ _).alloc (Nat.le_refl _) _
      have hk1 : Blk w1 wo.heap.size #[.int .i64 y, .int .i64 (k : Int)] 107 := by rw [← hw1]; exact Blk.new _ _ _
      have z1 : w1.heap.size = wo.heap.size + 1 := by rw [← hw1]; simp
      have zo := HB.out.size
      have HW1 := Lib.hid hw1
      have HK1 := Lib.hid hk1
      have HO1 := Lib.hid (own_after HO.out hb1)
      have HB1 := Lib.hid (HB.out.trans (hb1.mono HB.out.size))
      obtain ⟨Q, hQ⟩ : ∃ Q, numsL (l.take j) = Q := ⟨_, rfl⟩
      rw [hQ] at HO1 HT HL
      clear hw1 hb1 hk1 hQ HO
      go_wp2_with fail
      rw [HW1.out]
      go_loopw [3, 6] (fun v i wr => ∃ (k' : Nat) (Pp : List Int), k' ≤ k ∧ i = .int .i64 ((k' : Int) - 1) ∧ Hid (Pp ++ numB y k' = numB y k) ∧ Hid (wr.ownsRow w.heap.size 5 1 v (Q ++ Pp).length (byC (Q ++ Pp))) ∧ Hid (Below w.heap.size w wr) ∧ Hid (Blk wr wo.heap.size #[.int .i64 y, .int .i64 (k : Int)] 107)) (fun _ i _ => (intOf i + 1).toNat)
      case atStart => exact ⟨k, [], Nat.le_refl _, rfl, rfl, by rw [List.append_nil]; exact HO1.out, HB1.out, HK1.out⟩
      case round =>
        obtain ⟨k', Pp, hk', rfl, HP, HOr, HBr, HKr⟩ := hrel
        by_cases hkt : 0 < k'
        · obtain ⟨k2, rfl⟩ : ∃ k2, k' = k2 + 1 := ⟨k' - 1, by omega⟩
          have q0 := HKr.out.cell 0 rfl
          have hPl : Pp.length ≤ 8 := by have := congrArg List.length HP.out; simp [numB_len] at this; omega
          have hQl : Q.length ≤ 800 := by have := HL.out; omega
          have e1 : (((k2 + 1 : Nat) : Int) - 1) = (k2 : Int) := by omega
          rw [e1]
          have hk8 : k2 ≤ 7 := by omega
          have hown := HOr.out
          have hQP : (Q ++ Pp).length ≤ 808 := by rw [List.length_append]; omega
          have zr := HBr.out.size
          obtain ⟨N, hN⟩ : ∃ N, (Q ++ Pp).length = N := ⟨_, rfl⟩
          rw [hN] at hown hQP
          have HN := Lib.hid hN
          clear hN hPl hQl
          go_wp2_with (at_builtin; refine wpList_append_own _ rfl _ _ 52 rfl w.heap.size 5 i0 _ 1 1 Try.underlying52 hi hi0 hi1 hi2 rfl (by decide) _ N _ rfl (hown.alloc _) ⟨wr.heap.size, 0, none⟩ 1 1 [.int .u8 (y / 2 ^ (8 * k2) % 256)] rfl rfl (World.news_of_block (cs := #[.int .u8 (y / 2 ^ (8 * k2) % 256)]) (t := 5) (fr := (0, 0)) (heap_alloc_new wr _)) (by simp [Value.oneCell']) (by unfold maxLen; omega) (by omega) (by simp; omega) ?_; intro v' w3 hown' hgrow _)
          have hb3 : Below w.heap.size w w3 := HBr.out.trans (((Below.refl _ _).alloc zr _).grown hgrow (by simp; omega) (fun q e => (own_cells hown e).1))
          have hK3 : Hid (Blk w3 wo.heap.size #[.int .i64 y, .int .i64 (k : Int)] 107) := (HKr.out.alloc _).grown hgrow (HKr.out.own_ne hown (by decide))
          have hO3 : Hid (w3.ownsRow w.heap.size 5 1 v' (Q ++ (Pp ++ [byS y k2])).length (byC (Q ++ (Pp ++ [byS y k2])))) := by
            have e1 : (Q ++ (Pp ++ [byS y k2])).length = N + 1 := by rw [← HN.out]; simp; omega
            have e2 : byC (Q ++ (Pp ++ [byS y k2])) = byC (Q ++ Pp) ++ [.int .u8 (byS y k2)] := by unfold byC; simp
            show World.ownsRow _ _ _ _ _ _ _
            rw [e1, e2]
            exact hown'
          have hP3 : Hid ((Pp ++ [byS y k2]) ++ numB y k2 = numB y k) := by
            show _ = _
            rw [← HP.out, List.append_assoc]
            rfl
          have HB3 := Lib.hid hb3
          clear hown hown' hgrow hb3 q0
          go_wp2_with fail
          go_roundw
          case rel => exact ⟨k2, Pp ++ [byS y k2], by omega, rfl, hP3, hO3, HB3, hK3⟩
          case measure => simp [intOf]
        · obtain rfl : k' = 0 := by omega
          have hPe : Pp = numB y k := by have := HP.out; simpa [numB] using this
          have hOe : Hid (wr.ownsRow w.heap.size 5 1 u3 (numsL (l.take (j + 1))).length (byC (numsL (l.take (j + 1))))) := by
            show World.ownsRow _ _ _ _ _ _ _
            rw [HT.out, ← hPe]
            exact HOr.out
          have hLe : Hid ((numsL (l.take (j + 1))).length ≤ 8 * (j + 1)) := by
            show _ ≤ _
            rw [HT.out, List.length_append, numB_len]
            have := HL.out
            omega
          clear hPe HOr
          go_wp2_with fail
          go_roundw
          case rel => exact ⟨j + 1, by omega, by go_num, hOe, hLe, HBr⟩
          case measure => simp [intOf]; omega
    · obtain rfl : j = l.length := by omega
      rw [List.take_length] at HO
      go_wp2_with fail
      go_ret
      exact ⟨_, rfl, HO.out, HB.out⟩

end Go.Proofs.Ytkloijkfaooodaa
