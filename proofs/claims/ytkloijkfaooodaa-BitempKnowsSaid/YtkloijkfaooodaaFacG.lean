/- Package facts: a row's facts in order: the walk. -/
import Derived.Test.YtkloijkfaooodaaFacF
namespace Go.Proofs.Ytkloijkfaooodaa
open Go.RowKit Go.Sort Go.Shelf
set_option linter.unusedVariables false
set_option linter.unusedSimpArgs false

theorem infoEX : (Try.prog.info? 163).map (fun i => (i.zero, i.size, i.bytes)) = some (some (.agg #[.int .i64 0, .int .i64 0, .int .i64 0, .int .i64 0, .int .i64 0, .int .i64 0]), 6, 48) := by kernel_rfl
theorem infoX : (Try.prog.info? 86).map (fun i => (i.zero, i.size, i.bytes)) = some (some (.agg #[.int .i64 0, .int .i64 0, .int .i64 0, .int .i64 0]), 4, 32) := by kernel_rfl
theorem infoEH : (Try.prog.info? 170).map (fun i => (i.zero, i.size, i.bytes)) = some (some (.agg #[.int .i64 0, .int .i64 0, .int .i64 0, .int .i64 0, .int .i64 0]), 5, 40) := by kernel_rfl
theorem infoH : (Try.prog.info? 89).map (fun i => (i.zero, i.size, i.bytes)) = some (some (.agg #[.int .i64 0, .int .i64 0, .int .i64 0]), 3, 24) := by kernel_rfl

theorem sortanyX (base : Nat) (v : Value) (l : List Fx) (w : World) (ho : w.ownsRow base 163 6 v l.length (cellsL encEX l)) (hl : l.length ≤ 1000) :
    Calls Try.prog 85 #[v, .func (.func 86) #[] #[]] w fun e w' =>
      e = .returned (.tuple #[]) ∧ ∃ a cap l', v = .slice a l.length cap ∧ l'.Perm l ∧ l'.Pairwise (fun a b => ¬ ltK b.ky a.ky) ∧ RecsAt w' a 6 encEX l' ∧ RowKit.Below base w w' := by
  by_cases h0 : 0 < l.length
  · obtain ⟨g, cap, rfl, hb, hg, _, _, hH⟩ := holds_own (enc := encEX) (size := 6) (fun _ => rfl) ho rfl h0
    refine (sortX_ok g cap l w hH hg hl).mono ?_
    rintro e w' ⟨rfl, l', h1, h2, h3, h4⟩
    exact ⟨rfl, _, cap, l', rfl, h1, h2, h3, (grown_below h4 hg).mono hb⟩
  · have hn : l.length = 0 := by omega
    obtain ⟨a, cap, rfl, _⟩ := owned_recs (enc := encEX) (size := 6) (fun _ => rfl) ho rfl
    obtain rfl := List.length_eq_zero_iff.1 hn
    have hcon : Calls Try.prog 85 _ _ _ := AnyF.slices_SortFunc_none Try.sortX a cap (.func (.func 86) #[] #[]) w
    refine hcon.mono ?_
    rintro e w' ⟨rfl, rfl⟩
    exact ⟨rfl, a, cap, [], rfl, List.Perm.refl _, List.Pairwise.nil, RowsAt.nil _ _ _ _, RowKit.Below.refl _ _⟩
theorem sortanyH (base : Nat) (v : Value) (l : List Ch) (w : World) (ho : w.ownsRow base 170 5 v l.length (cellsL encEH l)) (hl : l.length ≤ 1000) :
    Calls Try.prog 89 #[v, .func (.func 90) #[] #[]] w fun e w' =>
      e = .returned (.tuple #[]) ∧ ∃ a cap l', v = .slice a l.length cap ∧ l'.Perm l ∧ l'.Pairwise (fun a b => ¬ ltK b.ky a.ky) ∧ RecsAt w' a 5 encEH l' ∧ RowKit.Below base w w' := by
  by_cases h0 : 0 < l.length
  · obtain ⟨g, cap, rfl, hb, hg, _, _, hH⟩ := holds_own (enc := encEH) (size := 5) (fun _ => rfl) ho rfl h0
    refine (sortH_ok g cap l w hH hg hl).mono ?_
    rintro e w' ⟨rfl, l', h1, h2, h3, h4⟩
    exact ⟨rfl, _, cap, l', rfl, h1, h2, h3, (grown_below h4 hg).mono hb⟩
  · have hn : l.length = 0 := by omega
    obtain ⟨a, cap, rfl, _⟩ := owned_recs (enc := encEH) (size := 5) (fun _ => rfl) ho rfl
    obtain rfl := List.length_eq_zero_iff.1 hn
    have hcon : Calls Try.prog 89 _ _ _ := AnyF.slices_SortFunc_none Try.sortH a cap (.func (.func 90) #[] #[]) w
    refine hcon.mono ?_
    rintro e w' ⟨rfl, rfl⟩
    exact ⟨rfl, a, cap, [], rfl, List.Perm.refl _, List.Pairwise.nil, RowsAt.nil _ _ _ _, RowKit.Below.refl _ _⟩

set_option maxHeartbeats 8000000 in
set_option maxRecDepth 100000 in
theorem allX_ok (ba : Nat) (A : List Fx) (w : World) (h : MapAt OkPl w ba (A.map entX)) (hr : Rising Fx.ky A) (hl : A.length ≤ 1000) :
    Calls Try.prog 66 #[.map (some ba)] w fun e w' => ∃ a cap, e = .returned (.slice a A.length cap) ∧ RecsAt w' a 4 encX A ∧ RowKit.Below w.heap.size w w' ∧ ∀ x, a = some x → w.heap.size ≤ x.block ∧ x.block < w'.heap.size := by
  obtain ⟨i0, hi, hi0, hi1, hi2⟩ := info_parts infoX
  obtain ⟨j0, hj, hj0, hj1, hj2⟩ := info_parts infoEX
  have HM := Lib.hid h
  have HR := Lib.hid hr
  have hba := h.lt
  clear h hr
  go_enter Try.func66, Try.ntmps66
  go_wp2_with (at_range; refine wpList_maprange _ rfl _ 124 rfl Try.underlying124 rfl HM.out ?_; intro w1 hit hb1 hs1)
  obtain ⟨r, hr⟩ : ∃ r, w.heap.size = r := ⟨_, rfl⟩
  rw [hr] at hit hb1 hs1 hba ⊢
  have HI1 := Lib.hid hit
  have HB1 := Lib.hid hb1
  have hr1 : r ≤ w.heap.size := by omega
  have hr2 : w.heap.size ≤ r := by omega
  clear hit hb1 HM hr
  go_frame
  go_loopg [3] A.length (fun k v wr => ∃ l rest, A.Perm (l ++ rest) ∧ k = rest.length ∧ Hid (wr.ownsRow (r + 1) 163 6 v l.length (cellsL encEX l)) ∧ Hid (IterAt OkPl wr ba r (A.map entX) (rest.map entX)) ∧ Hid (RowKit.Below r w wr))
  case atStart => exact ⟨[], A, List.Perm.refl _, rfl, (show w1.ownsRow _ _ _ _ _ _ from World.ownsRow_nil _ _ _ _), HI1, HB1⟩
  case round =>
    obtain ⟨l, rest, hp, hk, HO, HI, HB⟩ := hrel
    subst hk
    have HP := Lib.hid hp
    clear hp
    go_wp2_with (at_next; refine wpList_mapnext _ rfl _ rfl r (rest.map entX) rfl HI.out ?_ ?_)
    · intro hnil
      obtain rfl : rest = [] := by simpa using hnil
      have HL : Hid (A.Perm l) := by have := HP.out; rwa [List.append_nil] at this
      have hlen := Lib.hid HL.out.length_eq
      go_wp2_with fail
      with_reducible refine (sortanyX (r + 1) u3 l _ HO.out (by have := hlen.out; omega)).mono ?_
      rintro e w2 ⟨rfl, a, cap, l', rfl, hp1, hs1, hr1, hb1⟩
      obtain rfl : A = l' := (rising_of_sorted HR.out (hp1.trans HL.out.symm) hs1).symm
      rw [← hlen.out]
      have HR1 := Lib.hid hr1
      have HB2 : Hid (RowKit.Below r w w2) := HB.out.trans (hb1.mono (by omega))
      clear hp1 hs1 hr1 hb1 HO HI HL hlen HP
      go_wp2_with fail
      go_loopw [6, 26] (fun v i wl => ∃ j : Nat, j ≤ A.length ∧ i = .int .i64 j ∧ Hid (wl.ownsRow w2.heap.size 86 4 v (A.take j).length (cellsL encX (A.take j))) ∧ Hid (RowKit.Below w2.heap.size w2 wl)) (fun _ i _ => A.length - (intOf i).toNat)
      case atStart => exact ⟨0, by omega, rfl, World.ownsRow_nil _ _ _ _, RowKit.Below.refl _ _⟩
      case round =>
        obtain ⟨j, hj, rfl, HO, HB⟩ := hrel
        obtain ⟨wl, rfl⟩ : ∃ wl : World, wl = wr := ⟨_, rfl⟩
        by_cases hlt : j < A.length
        · have hx := List.getElem?_eq_getElem hlt
          have HT : Hid (A.take (j + 1) = A.take j ++ [A[j]]) := List.take_succ_eq_append_getElem hlt
          have hl2 : (A.take j).length = j := by rw [List.length_take]; omega
          obtain ⟨z, hz⟩ : ∃ z, A[j] = z := ⟨_, rfl⟩
          rw [hz] at hx HT
          have HL2 := Lib.hid hl2
          have hR := HR1.out.after HB.out
          obtain ⟨b, o, rfl, _⟩ := hR (by omega)
          obtain ⟨k, d, n, m⟩ := z
          have c0 : wl.cell? ⟨b, o + j * 6, none⟩ = some (.int .i64 k) := RecsAt.cell hR rfl hlt hx (j := 0) rfl
          have c1 : wl.cell? ⟨b, o + j * 6 + 1, none⟩ = some (.int .i64 d) := RecsAt.cell hR rfl hlt hx (j := 1) rfl
          have c2 : wl.cell? ⟨b, o + j * 6 + 2, none⟩ = some (.int .i64 k) := RecsAt.cell hR rfl hlt hx (j := 2) rfl
          have c3 : wl.cell? ⟨b, o + j * 6 + 3, none⟩ = some (.int .i64 d) := RecsAt.cell hR rfl hlt hx (j := 3) rfl
          have c4 : wl.cell? ⟨b, o + j * 6 + 4, none⟩ = some (.int .i64 n) := RecsAt.cell hR rfl hlt hx (j := 4) rfl
          have c5 : wl.cell? ⟨b, o + j * 6 + 5, none⟩ = some (.int .i64 m) := RecsAt.cell hR rfl hlt hx (j := 5) rfl
          have zr := HB.out.size
          clear hx hz hR hl2
          go_wp2_with (at_builtin; refine wpList_append_own _ rfl _ _ 138 rfl w2.heap.size 86 i0 _ 4 32 Try.underlying138 hi hi0 hi1 hi2 rfl (by decide) _ (A.take j).length _ rfl ((HO.out.alloc _).alloc _) ⟨wl.heap.size + 1, 0, none⟩ 1 1 [.int .i64 k, .int .i64 d, .int .i64 n, .int .i64 m] rfl rfl (World.news_of_block (cs := #[.int .i64 k, .int .i64 d, .int .i64 n, .int .i64 m]) (t := 86) (fr := (0, 0)) (alloc_at (by simp))) (by simp [Value.oneCell']) (by rw [HL2.out]; unfold maxLen; omega) (by rw [HL2.out]; omega) (by simp; omega) ?_; intro v' w3 hown' hgrow _)
          have HO3 : Hid (w3.ownsRow w2.heap.size 86 4 v' (A.take (j + 1)).length (cellsL encX (A.take (j + 1)))) := by
            show World.ownsRow _ _ _ _ _ _ _
            rw [HT.out, List.length_append, cellsL_snoc]
            exact hown'
          have hB3 := (((RowKit.Below.refl w2.heap.size wl).alloc zr (.cells #[.int .i64 k, .int .i64 d, .int .i64 k, .int .i64 d, .int .i64 n, .int .i64 m] 163)).alloc (by simp; omega) (.cells #[.int .i64 k, .int .i64 d, .int .i64 n, .int .i64 m] 86))
          have HB3 : Hid (RowKit.Below w2.heap.size w2 w3) := (HB.out.trans hB3).grown hgrow (by simp; omega) (fun k e => (own_base HO.out e).1)
          clear hB3 hown' hgrow
          go_roundw
          case rel => exact ⟨j + 1, by omega, by go_num, HO3, HB3⟩
          case measure => simp [intOf]; omega
        · obtain rfl : j = A.length := by omega
          go_wp2_with fail
          go_ret
          have h := HO.out
          rw [List.take_length] at h
          obtain ⟨a, cap, rfl, _, _, _, hx, hr⟩ := owned_recs (enc := encX) (size := 4) (fun _ => rfl) h rfl
          exact ⟨a, cap, rfl, hr, (HB2.out.trans (HB.out.mono (by have := HB2.out.size; omega))).mono hr2, fun x e => by have := hx x e; have := HB2.out.size; omega⟩
    · intro x v lf w2 hp2 hit2 hg2 hs2 hent
      obtain ⟨z, rest', hq, hz, hlf⟩ := left_cons hp2
      have HI2 := Lib.hid (hit2.perm hlf)
      obtain ⟨rfl, rfl⟩ := Prod.mk.inj hz
      clear hz hlf hit2 hp2
      have he2 := hent w2 rfl rfl
      clear hent
      have hlen : l.length + rest'.length + 1 = A.length := by have := HP.out.length_eq; have := hq.length_eq; simp only [List.length_append, List.length_cons] at *; omega
      have HO2 := Lib.hid (own_kept HO.out hg2 (fun g hg e => by have := (own_base HO.out hg).1; cases e; omega))
      have HB2 : Hid (RowKit.Below r w w2) := HB.out.grown hg2 (by have := HB.out.size; omega) (fun k e => by cases e; exact Nat.le_refl _)
      have HP2 : Hid (A.Perm ((l ++ [z]) ++ rest')) := by have := HP.out.trans (hq.append_left l); show List.Perm _ _; simpa using this
      have hz2 : r < w2.heap.size := HI2.out.lt
      have hrl : rest'.length < rest.length := by have := hq.length_eq; simp only [List.length_cons] at this; omega
      clear hq hg2 hs2 HO HI HB HP
      obtain ⟨k, d, n, m⟩ := z
      dsimp only [plV, encX, Fx.ky] at he2 ⊢
      go_wp2_with (at_builtin; refine wpList_append_own _ rfl _ _ 161 rfl (r + 1) 163 j0 _ 6 48 Try.underlying161 hj hj0 hj1 hj2 rfl (by decide) _ l.length _ rfl (((HO2.out.alloc _).alloc _).alloc _) ⟨w2.heap.size + 2, 0, none⟩ 1 1 [.int .i64 k, .int .i64 d, .int .i64 k, .int .i64 d, .int .i64 n, .int .i64 m] rfl rfl (World.news_of_block (cs := #[.int .i64 k, .int .i64 d, .int .i64 k, .int .i64 d, .int .i64 n, .int .i64 m]) (t := 163) (fr := (0, 0)) (alloc_at (by simp))) (by simp [Value.oneCell']) (by unfold maxLen; omega) (by omega) (by simp; omega) ?_; intro v' w3 hown' hgrow _)
      have hr3 : ∀ {g}, u3.ownBlock = some g → r + 1 ≤ g ∧ g < w2.heap.size := fun h => own_base HO2.out h
      have HO3 : Hid (w3.ownsRow (r + 1) 163 6 v' (l ++ [(⟨k, d, n, m⟩ : Fx)]).length (cellsL encEX (l ++ [(⟨k, d, n, m⟩ : Fx)]))) := by
        show World.ownsRow _ _ _ _ _ _ _
        rw [List.length_append, cellsL_snoc]
        exact hown'
      have hB3 := ((((RowKit.Below.refl w2.heap.size w2).alloc (Nat.le_refl _) (.cells #[.int .i64 k, .int .i64 d] 131)).alloc (by simp) (.cells #[.int .i64 k, .int .i64 d, .int .i64 n, .int .i64 m] 86)).alloc (by simp; omega) (.cells #[.int .i64 k, .int .i64 d, .int .i64 k, .int .i64 d, .int .i64 n, .int .i64 m] 163))
      have HI3 : Hid (IterAt OkPl w3 ba r (A.map entX) (rest'.map entX)) := (HI2.out.after hB3).kept hgrow (fun e => by have := (hr3 e).1; omega) (fun e => by have := (hr3 e).1; omega)
      have HB3 : Hid (RowKit.Below r w w3) := (HB2.out.trans (hB3.mono (by omega))).grown hgrow (by have := hB3.size; omega) (fun k e => by have := (hr3 e).1; omega)
      clear hr3 hB3 hown' hgrow
      go_roundg rest'.length
      case measure => omega
      case rel => exact ⟨_, rest', HP2.out, rfl, HO3, HI3, HB3⟩
set_option maxHeartbeats 8000000 in
set_option maxRecDepth 100000 in
theorem allH_ok (ba : Nat) (A : List Ch) (w : World) (h : MapAt OkPl w ba (A.map entH)) (hr : Rising Ch.ky A) (hl : A.length ≤ 1000) :
    Calls Try.prog 68 #[.map (some ba)] w fun e w' => ∃ a cap, e = .returned (.slice a A.length cap) ∧ RecsAt w' a 3 encH A ∧ RowKit.Below w.heap.size w w' ∧ ∀ x, a = some x → w.heap.size ≤ x.block ∧ x.block < w'.heap.size := by
  obtain ⟨i0, hi, hi0, hi1, hi2⟩ := info_parts infoH
  obtain ⟨j0, hj, hj0, hj1, hj2⟩ := info_parts infoEH
  have HM := Lib.hid h
  have HR := Lib.hid hr
  have hba := h.lt
  clear h hr
  go_enter Try.func68, Try.ntmps68
  go_wp2_with (at_range; refine wpList_maprange _ rfl _ 126 rfl Try.underlying126 rfl HM.out ?_; intro w1 hit hb1 hs1)
  obtain ⟨r, hr⟩ : ∃ r, w.heap.size = r := ⟨_, rfl⟩
  rw [hr] at hit hb1 hs1 hba ⊢
  have HI1 := Lib.hid hit
  have HB1 := Lib.hid hb1
  have hr1 : r ≤ w.heap.size := by omega
  have hr2 : w.heap.size ≤ r := by omega
  clear hit hb1 HM hr
  go_frame
  go_loopg [3] A.length (fun k v wr => ∃ l rest, A.Perm (l ++ rest) ∧ k = rest.length ∧ Hid (wr.ownsRow (r + 1) 170 5 v l.length (cellsL encEH l)) ∧ Hid (IterAt OkPl wr ba r (A.map entH) (rest.map entH)) ∧ Hid (RowKit.Below r w wr))
  case atStart => exact ⟨[], A, List.Perm.refl _, rfl, (show w1.ownsRow _ _ _ _ _ _ from World.ownsRow_nil _ _ _ _), HI1, HB1⟩
  case round =>
    obtain ⟨l, rest, hp, hk, HO, HI, HB⟩ := hrel
    subst hk
    have HP := Lib.hid hp
    clear hp
    go_wp2_with (at_next; refine wpList_mapnext _ rfl _ rfl r (rest.map entH) rfl HI.out ?_ ?_)
    · intro hnil
      obtain rfl : rest = [] := by simpa using hnil
      have HL : Hid (A.Perm l) := by have := HP.out; rwa [List.append_nil] at this
      have hlen := Lib.hid HL.out.length_eq
      go_wp2_with fail
      with_reducible refine (sortanyH (r + 1) u3 l _ HO.out (by have := hlen.out; omega)).mono ?_
      rintro e w2 ⟨rfl, a, cap, l', rfl, hp1, hs1, hr1, hb1⟩
      obtain rfl : A = l' := (rising_of_sorted HR.out (hp1.trans HL.out.symm) hs1).symm
      rw [← hlen.out]
      have HR1 := Lib.hid hr1
      have HB2 : Hid (RowKit.Below r w w2) := HB.out.trans (hb1.mono (by omega))
      clear hp1 hs1 hr1 hb1 HO HI HL hlen HP
      go_wp2_with fail
      go_loopw [6, 26] (fun v i wl => ∃ j : Nat, j ≤ A.length ∧ i = .int .i64 j ∧ Hid (wl.ownsRow w2.heap.size 89 3 v (A.take j).length (cellsL encH (A.take j))) ∧ Hid (RowKit.Below w2.heap.size w2 wl)) (fun _ i _ => A.length - (intOf i).toNat)
      case atStart => exact ⟨0, by omega, rfl, World.ownsRow_nil _ _ _ _, RowKit.Below.refl _ _⟩
      case round =>
        obtain ⟨j, hj, rfl, HO, HB⟩ := hrel
        obtain ⟨wl, rfl⟩ : ∃ wl : World, wl = wr := ⟨_, rfl⟩
        by_cases hlt : j < A.length
        · have hx := List.getElem?_eq_getElem hlt
          have HT : Hid (A.take (j + 1) = A.take j ++ [A[j]]) := List.take_succ_eq_append_getElem hlt
          have hl2 : (A.take j).length = j := by rw [List.length_take]; omega
          obtain ⟨z, hz⟩ : ∃ z, A[j] = z := ⟨_, rfl⟩
          rw [hz] at hx HT
          have HL2 := Lib.hid hl2
          have hR := HR1.out.after HB.out
          obtain ⟨b, o, rfl, _⟩ := hR (by omega)
          obtain ⟨k, d, p⟩ := z
          have c0 : wl.cell? ⟨b, o + j * 5, none⟩ = some (.int .i64 k) := RecsAt.cell hR rfl hlt hx (j := 0) rfl
          have c1 : wl.cell? ⟨b, o + j * 5 + 1, none⟩ = some (.int .i64 d) := RecsAt.cell hR rfl hlt hx (j := 1) rfl
          have c2 : wl.cell? ⟨b, o + j * 5 + 2, none⟩ = some (.int .i64 k) := RecsAt.cell hR rfl hlt hx (j := 2) rfl
          have c3 : wl.cell? ⟨b, o + j * 5 + 3, none⟩ = some (.int .i64 d) := RecsAt.cell hR rfl hlt hx (j := 3) rfl
          have c4 : wl.cell? ⟨b, o + j * 5 + 4, none⟩ = some (.int .i64 p) := RecsAt.cell hR rfl hlt hx (j := 4) rfl
          have zr := HB.out.size
          clear hx hz hR hl2
          go_wp2_with (at_builtin; refine wpList_append_own _ rfl _ _ 141 rfl w2.heap.size 89 i0 _ 3 24 Try.underlying141 hi hi0 hi1 hi2 rfl (by decide) _ (A.take j).length _ rfl ((HO.out.alloc _).alloc _) ⟨wl.heap.size + 1, 0, none⟩ 1 1 [.int .i64 k, .int .i64 d, .int .i64 p] rfl rfl (World.news_of_block (cs := #[.int .i64 k, .int .i64 d, .int .i64 p]) (t := 89) (fr := (0, 0)) (alloc_at (by simp))) (by simp [Value.oneCell']) (by rw [HL2.out]; unfold maxLen; omega) (by rw [HL2.out]; omega) (by simp; omega) ?_; intro v' w3 hown' hgrow _)
          have HO3 : Hid (w3.ownsRow w2.heap.size 89 3 v' (A.take (j + 1)).length (cellsL encH (A.take (j + 1)))) := by
            show World.ownsRow _ _ _ _ _ _ _
            rw [HT.out, List.length_append, cellsL_snoc]
            exact hown'
          have hB3 := (((RowKit.Below.refl w2.heap.size wl).alloc zr (.cells #[.int .i64 k, .int .i64 d, .int .i64 k, .int .i64 d, .int .i64 p] 170)).alloc (by simp; omega) (.cells #[.int .i64 k, .int .i64 d, .int .i64 p] 89))
          have HB3 : Hid (RowKit.Below w2.heap.size w2 w3) := (HB.out.trans hB3).grown hgrow (by simp; omega) (fun k e => (own_base HO.out e).1)
          clear hB3 hown' hgrow
          go_roundw
          case rel => exact ⟨j + 1, by omega, by go_num, HO3, HB3⟩
          case measure => simp [intOf]; omega
        · obtain rfl : j = A.length := by omega
          go_wp2_with fail
          go_ret
          have h := HO.out
          rw [List.take_length] at h
          obtain ⟨a, cap, rfl, _, _, _, hx, hr⟩ := owned_recs (enc := encH) (size := 3) (fun _ => rfl) h rfl
          exact ⟨a, cap, rfl, hr, (HB2.out.trans (HB.out.mono (by have := HB2.out.size; omega))).mono hr2, fun x e => by have := hx x e; have := HB2.out.size; omega⟩
    · intro x v lf w2 hp2 hit2 hg2 hs2 hent
      obtain ⟨z, rest', hq, hz, hlf⟩ := left_cons hp2
      have HI2 := Lib.hid (hit2.perm hlf)
      obtain ⟨rfl, rfl⟩ := Prod.mk.inj hz
      clear hz hlf hit2 hp2
      have he2 := hent w2 rfl rfl
      clear hent
      have hlen : l.length + rest'.length + 1 = A.length := by have := HP.out.length_eq; have := hq.length_eq; simp only [List.length_append, List.length_cons] at *; omega
      have HO2 := Lib.hid (own_kept HO.out hg2 (fun g hg e => by have := (own_base HO.out hg).1; cases e; omega))
      have HB2 : Hid (RowKit.Below r w w2) := HB.out.grown hg2 (by have := HB.out.size; omega) (fun k e => by cases e; exact Nat.le_refl _)
      have HP2 : Hid (A.Perm ((l ++ [z]) ++ rest')) := by have := HP.out.trans (hq.append_left l); show List.Perm _ _; simpa using this
      have hz2 : r < w2.heap.size := HI2.out.lt
      have hrl : rest'.length < rest.length := by have := hq.length_eq; simp only [List.length_cons] at this; omega
      clear hq hg2 hs2 HO HI HB HP
      obtain ⟨k, d, p⟩ := z
      dsimp only [plV, encH, Fx.ky] at he2 ⊢
      go_wp2_with (at_builtin; refine wpList_append_own _ rfl _ _ 168 rfl (r + 1) 170 j0 _ 5 40 Try.underlying168 hj hj0 hj1 hj2 rfl (by decide) _ l.length _ rfl (((HO2.out.alloc _).alloc _).alloc _) ⟨w2.heap.size + 2, 0, none⟩ 1 1 [.int .i64 k, .int .i64 d, .int .i64 k, .int .i64 d, .int .i64 p] rfl rfl (World.news_of_block (cs := #[.int .i64 k, .int .i64 d, .int .i64 k, .int .i64 d, .int .i64 p]) (t := 170) (fr := (0, 0)) (alloc_at (by simp))) (by simp [Value.oneCell']) (by unfold maxLen; omega) (by omega) (by simp; omega) ?_; intro v' w3 hown' hgrow _)
      have hr3 : ∀ {g}, u3.ownBlock = some g → r + 1 ≤ g ∧ g < w2.heap.size := fun h => own_base HO2.out h
      have HO3 : Hid (w3.ownsRow (r + 1) 170 5 v' (l ++ [(⟨k, d, p⟩ : Ch)]).length (cellsL encEH (l ++ [(⟨k, d, p⟩ : Ch)]))) := by
        show World.ownsRow _ _ _ _ _ _ _
        rw [List.length_append, cellsL_snoc]
        exact hown'
      have hB3 := ((((RowKit.Below.refl w2.heap.size w2).alloc (Nat.le_refl _) (.cells #[.int .i64 k, .int .i64 d] 131)).alloc (by simp) (.cells #[.int .i64 k, .int .i64 d, .int .i64 p] 89)).alloc (by simp; omega) (.cells #[.int .i64 k, .int .i64 d, .int .i64 k, .int .i64 d, .int .i64 p] 170))
      have HI3 : Hid (IterAt OkPl w3 ba r (A.map entH) (rest'.map entH)) := (HI2.out.after hB3).kept hgrow (fun e => by have := (hr3 e).1; omega) (fun e => by have := (hr3 e).1; omega)
      have HB3 : Hid (RowKit.Below r w w3) := (HB2.out.trans (hB3.mono (by omega))).grown hgrow (by have := hB3.size; omega) (fun k e => by have := (hr3 e).1; omega)
      clear hr3 hB3 hown' hgrow
      go_roundg rest'.length
      case measure => omega
      case rel => exact ⟨_, rest', HP2.out, rfl, HO3, HI3, HB3⟩

end Go.Proofs.Ytkloijkfaooodaa
