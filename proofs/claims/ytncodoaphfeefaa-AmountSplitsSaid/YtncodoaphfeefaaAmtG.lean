/- Package chattellaw01: Ints, awake. -/
import Derived.Test.YtncodoaphfeefaaAmtF
namespace Go.Proofs.Ytncodoaphfeefaa
open Go.RowKit Go.Shelf Go.Lib Go.Sort
set_option linter.unusedVariables false
set_option linter.unusedSimpArgs false

theorem getD_ext {xs ys : List Int} (hl : xs.length = ys.length) (h : ∀ i, i < xs.length → xs.getD i 0 = ys.getD i 0) : xs = ys := by
  refine List.ext_getElem hl fun i h1 h2 => ?_
  have := h i h1
  simpa [List.getD_eq_getElem?_getD, List.getElem?_eq_getElem h1, List.getElem?_eq_getElem h2] using this

set_option maxHeartbeats 1000000 in
set_option maxRecDepth 100000 in
theorem ints_ok (a b : Option Addr) (ca cb : Nat) (xs ys : List Int) (hlx : xs.length ≤ 1000000) (w : World) (hx : RowAt w a xs.length (numV xs)) (hy : RowAt w b ys.length (numV ys)) :
    Calls Try.prog 19 #[.slice a xs.length ca, .slice b ys.length cb] w fun e w' => e = .returned (.bool (decide (xs = ys))) ∧ Below w.heap.size w w' := by
  have HX := Lib.hid hx
  have HY := Lib.hid hy
  clear hx hy
  by_cases hl : xs.length = ys.length
  · have hlb : ((xs.length : Int) != (ys.length : Int)) = false := by simp [hl]
    have HL := Lib.hid hl
    clear hl
    go_enter Try.func19, Try.ntmps19
    go_wp2_with fail
    go_loopw [5] (fun c wr => ∃ k : Nat, k ≤ xs.length ∧ c = .int .i64 (k : Int) ∧ Hid (∀ j, j < k → xs.getD j 0 = ys.getD j 0) ∧ Below w.heap.size w wr) (fun c _ => xs.length - (intOf c).toNat)
    case atStart => exact ⟨0, by omega, by simp, (fun j hj => by omega), Below.refl _ _⟩
    case round =>
      obtain ⟨k, hk, rfl, HK, hbl⟩ := hrel
      by_cases hlt : k < xs.length
      · have hlt' : (k : Int) < (xs.length : Int) := by omega
        have hlt2 : (k : Int) < (ys.length : Int) := by have := HL.out; omega
        obtain ⟨bx, ox, rfl, hcx⟩ := (HX.out.after hbl) (by omega)
        obtain ⟨by_, oy, rfl, hcy⟩ := (HY.out.after hbl) (by omega)
        have cx : wr.cell? ⟨bx, ox + k, none⟩ = some (.int .i64 (xs.getD k 0)) := hcx k hlt
        have cy : wr.cell? ⟨by_, oy + k, none⟩ = some (.int .i64 (ys.getD k 0)) := hcy k (by omega)
        clear hcx hcy
        obtain ⟨x, hxx⟩ : ∃ x, xs.getD k 0 = x := ⟨_, rfl⟩
        obtain ⟨y, hyy⟩ : ∃ x, ys.getD k 0 = x := ⟨_, rfl⟩
        rw [hxx] at cx
        rw [hyy] at cy
        have HXX := Lib.hid hxx
        have HYY := Lib.hid hyy
        have HLT := Lib.hid hlt
        have hwk : IntKind.i64.wrap ((k : Int) + 1) = (k : Int) + 1 := IntWalk.i64_in _ (by omega)
        clear hxx hyy hlt
        by_cases hxy : x = y
        · have hxb : (x != y) = false := by simp [hxy]
          have HXY := Lib.hid hxy
          clear hxy
          go_wp2_with (go_quiet (fail))
          go_roundw
          case rel =>
            refine ⟨k + 1, by have := HLT.out; omega, by go_num, (fun j hj => ?_), hbl.trans ((below_draws _ _).mono hbl.size)⟩
            rcases Nat.lt_or_ge j k with h | h
            · exact HK.out j h
            · obtain rfl : j = k := by omega
              rw [HXX.out, HYY.out]
              exact HXY.out
          case measure => have := HLT.out; simp [intOf]; omega
        · have hxb : (x != y) = true := by simp [hxy]
          have HXY := Lib.hid hxy
          clear hxy
          go_wp2_with (go_quiet (fail))
          go_ret
          refine ⟨?_, hbl.trans ((below_draws _ _).mono hbl.size)⟩
          rw [decide_eq_false (fun h => HXY.out (by rw [← HXX.out, ← HYY.out, h]))]
          rfl
      · obtain rfl : k = xs.length := by omega
        go_wp2_with fail
        go_ret
        rw [decide_eq_true (getD_ext HL.out HK.out)]
        exact ⟨rfl, hbl⟩
  · have hlb : ((xs.length : Int) != (ys.length : Int)) = true := by simp; omega
    have HL := Lib.hid hl
    clear hl
    go_enter Try.func19, Try.ntmps19
    go_wp2_with fail
    go_ret
    rw [decide_eq_false (fun h => HL.out (by rw [h]))]
    exact ⟨rfl, Below.refl _ _⟩

theorem own_num {w : World} {base n : Nat} {v : Value} {xs : List Int} (h : w.ownsRow base 3 1 v n (xs.map (Value.int .i64))) (hn : xs.length = n) :
    ∃ a cap, v = .slice a n cap ∧ (∀ x, a = some x → base ≤ x.block ∧ x.block < w.heap.size) ∧ RowAt w a n (numV xs) := by
  rcases h.2 with ⟨rfl, h0⟩ | ⟨g, cap, cur, rfl, hb, hg, _⟩
  · subst h0
    exact ⟨none, 0, rfl, (fun x e => by cases e), RowAt.nil _ _ _⟩
  · refine ⟨some ⟨g, 0, none⟩, cap, rfl, fun x e => by cases e; exact ⟨hb, (Array.getElem?_eq_some_iff.1 hg).1⟩, fun _ => ⟨g, 0, rfl, fun i hi => ?_⟩⟩
    rw [Nat.zero_add, h.cellAt i (by omega), List.getElem?_map, List.getElem?_eq_getElem (by omega)]
    simp [numV, List.getD_eq_getElem?_getD, show i < xs.length by omega]
theorem row_block {w : World} {B : Nat} {xs : List Int} {t : TypeId} {fr : Nat × Nat} (hb : w.heap[B]? = some (.cells (xs.map (Value.int .i64)).toArray t fr)) : RowAt w (some ⟨B, 0, none⟩) xs.length (numV xs) := fun _ => ⟨B, 0, rfl, fun i hi => by
  have h := World.news_of_block hb i (numV xs i) (by simp [numV, List.getD_eq_getElem?_getD, hi])
  have e : (⟨B, 0, none⟩ : Addr).add i = ⟨B, 0 + i, none⟩ := by rw [Nat.zero_add]; unfold Addr.add; split <;> simp_all
  rw [e] at h
  exact h⟩

theorem head3 {d : Array Cut} (h : SortedOf (cutsL 10 3 [1, 1, 1] 3).toArray d) : (d[0]!).1 = 0 := by
  obtain ⟨hs, hm⟩ := sorted_at h
  have h0 : ((0, 1) : Cut) ∈ d.toList := h.perm.mem_iff.2 (by decide)
  obtain ⟨j, hj, e⟩ := List.mem_iff_getElem.1 h0
  have hj' : j < d.size := by simpa using hj
  have e2 : d[j]! = (0, 1) := by rw [getElem!_pos d j hj', ← e]; simp
  rcases Nat.eq_zero_or_pos j with rfl | hp
  · rw [e2]
  · have h1 := h.rises 0 j hp hj'
    have h2 := (hm 0 (by omega)).1
    have h3 := (hm 0 (by omega)).2.1
    rw [e2] at h1
    unfold lexC at h1
    have h4 : rW 10 3 [1, 1, 1] (d[0]!).1 = 1 := by
      have : (d[0]!).1 = 0 ∨ (d[0]!).1 = 1 ∨ (d[0]!).1 = 2 := by omega
      rcases this with h | h | h <;> rw [h] <;> decide
    rw [h4] at h3
    rw [h3] at h1
    simp at h1
theorem split_1 : splitE 10 [1, 1, 1] = 0 := by unfold splitE; decide
theorem split_3 {d : Array Cut} (h : SortedOf (cutsL 10 3 [1, 1, 1] 3).toArray d) : splitL 10 10 3 [1, 1, 1] d 3 = [4, 3, 3] := by
  obtain ⟨hs, hm⟩ := sorted_at h
  have h0 := head3 h
  have hg : ∀ i, gift d 1 i = (0 == i) := fun i => by
    rw [gift_succ d 0 i (by omega), h0]
    simp [gift]
  have hmin : min (10 - sumQ 10 3 [1, 1, 1] 3) 3 = 1 := by decide
  unfold splitL outG
  rw [hmin]
  simp only [hg]
  decide

theorem abc_split (w : World) : Calls Try.prog 15 #[.int .i64 10, .slice (some ⟨w.heap.size, 0, none⟩) 3 3] (w.alloc (.cells #[.int .i64 1, .int .i64 1, .int .i64 1] 3)) fun e w' =>
    ∃ a cap, e = .returned (.tuple #[.slice a 3 cap, .int .i64 0]) ∧ Below w.heap.size w w' ∧ RowAt w' a 3 (numV [4, 3, 3]) := by
  have h := split_ok 10 (by omega) (by omega) (some ⟨w.heap.size, 0, none⟩) 3 [1, 1, 1] (by simp) (fun x hx => by simp at hx; omega) (fun _ => stable_few 3 (by omega)) (w.alloc (.cells #[.int .i64 1, .int .i64 1, .int .i64 1] 3)) (row_block (xs := [1, 1, 1]) (heap_alloc_new w _))
  refine h.mono ?_
  rintro e w' ⟨v, rfl, hb, _, hok⟩
  rw [split_1] at hok ⊢
  obtain ⟨d, hd, hown⟩ := hok rfl
  have e3 : splitL 10 (10 : Int).natAbs ([1, 1, 1] : List Int).sum.natAbs [1, 1, 1] d 3 = [4, 3, 3] := split_3 hd
  obtain ⟨bb, hown'⟩ : ∃ bb, w'.ownsRow bb 3 1 v 3 (([4, 3, 3] : List Int).map (Value.int .i64)) := ⟨_, by rw [← e3]; exact hown⟩
  obtain ⟨a, cap, rfl, _, hr⟩ := own_num hown' rfl
  refine ⟨a, cap, rfl, ?_, hr⟩
  exact ((Below.refl _ _).alloc (Nat.le_refl _) _).trans (hb.mono (by simp))
theorem abc_ints (a : Option Addr) (cap : Nat) (w : World) (h : RowAt w a 3 (numV [4, 3, 3])) : Calls Try.prog 19 #[.slice a 3 cap, .slice (some ⟨w.heap.size, 0, none⟩) 3 3] (w.alloc (.cells #[.int .i64 4, .int .i64 3, .int .i64 3] 3)) fun e w' => e = .returned (.bool true) ∧ Below w.heap.size w w' := by
  have h1 : Below w.heap.size w (w.alloc (.cells #[.int .i64 4, .int .i64 3, .int .i64 3] 3)) := (Below.refl _ _).alloc (Nat.le_refl _) _
  have h2 := ints_ok a (some ⟨w.heap.size, 0, none⟩) cap 3 [4, 3, 3] [4, 3, 3] (by simp) _ (h.after h1) (row_block (xs := [4, 3, 3]) (heap_alloc_new w _))
  refine h2.mono ?_
  rintro e w' ⟨rfl, hb⟩
  exact ⟨by simp, h1.trans (hb.mono h1.size)⟩

theorem md5 (w : World) : Calls Try.prog 9 #[.int .i64 5, .int .i64 1, .int .i64 2] w fun e w' => e = .returned (.tuple #[.int .i64 2, .int .i64 0]) ∧ Below w.heap.size w w' := by
  refine (muldiv_ok 5 1 2 (by omega) (by omega) (by omega) (by omega) (by omega) (by omega) w).mono ?_
  rintro e w' ⟨rfl, n, rfl⟩
  rw [show muldV 5 1 2 = (2, 0) by decide]
  exact ⟨rfl, below_draws _ _⟩
theorem md7 (w : World) : Calls Try.prog 9 #[.int .i64 7, .int .i64 1, .int .i64 2] w fun e w' => e = .returned (.tuple #[.int .i64 4, .int .i64 0]) ∧ Below w.heap.size w w' := by
  refine (muldiv_ok 7 1 2 (by omega) (by omega) (by omega) (by omega) (by omega) (by omega) w).mono ?_
  rintro e w' ⟨rfl, n, rfl⟩
  rw [show muldV 7 1 2 = (4, 0) by decide]
  exact ⟨rfl, below_draws _ _⟩

set_option maxHeartbeats 1000000 in
theorem awake_ok (w : World) : Calls Try.prog 10 #[] w fun e w' => e = .returned (.bool true) ∧ Below w.heap.size w w' := by
  go_enter Try.func10, Try.ntmps10
  go_wp2_with fail
  with_reducible refine (md5 _).mono ?_
  rintro e w1 ⟨rfl, b1⟩
  go_wp2_with fail
  with_reducible refine (md7 _).mono ?_
  rintro e w2 ⟨rfl, b2⟩
  go_wp2_with fail
  with_reducible refine (abc_split _).mono ?_
  rintro e w3 ⟨a, cap, rfl, b3, hr⟩
  have HR := Lib.hid hr
  clear hr
  go_wp2_with fail
  with_reducible refine (abc_ints _ _ _ HR.out).mono ?_
  rintro e w4 ⟨rfl, b4⟩
  go_wp2_with fail
  go_ret
  have c2 := b1.trans (b2.mono b1.size)
  have c3 := c2.trans (b3.mono c2.size)
  exact ⟨by simp, c3.trans (b4.mono c3.size)⟩

end Go.Proofs.Ytncodoaphfeefaa
