/- container/heap: Remove, Fix. -/
import Derived.Test.YtgcncnmkfpfccaaAgI
namespace Go.Proofs.Ytgcncnmkfpfccaa
open Go.RowKit Go.Sort Go.Shelf
set_option linter.unusedVariables false
set_option linter.unusedSimpArgs false


set_option maxHeartbeats 4000000 in
set_option maxRecDepth 100000 in
theorem hremove_ok (base B bm : Nat) (sv : Value) (L : List It) (N : Int) (i : Nat) (x : It) (hx : L[i]? = some x) (hl : L.length ≤ 100000) (w : World) (h : PAt w base B bm sv L N) (hp : HeapG (gK L) L.length) :
    Calls Try.prog 37 #[IF B, .int .i64 i] w (HPopEnd w base B bm sv L N i x) := by
  have mLess : ∀ w, Sem.run Try.prog (method 233 69 (.pointer (some ⟨B, 0, none⟩)) "Less") w = .ok (82, .pointer (some ⟨B, 0, none⟩)) w := fun _ => by kernel_rfl
  have mSwap : ∀ w, Sem.run Try.prog (method 233 69 (.pointer (some ⟨B, 0, none⟩)) "Swap") w = .ok (85, .pointer (some ⟨B, 0, none⟩)) w := fun _ => by kernel_rfl
  have mLen : ∀ w, Sem.run Try.prog (method 233 69 (.pointer (some ⟨B, 0, none⟩)) "Len") w = .ok (27, .pointer (some ⟨B, 0, none⟩)) w := fun _ => by kernel_rfl
  have mPush : ∀ w, Sem.run Try.prog (method 233 69 (.pointer (some ⟨B, 0, none⟩)) "Push") w = .ok (84, .pointer (some ⟨B, 0, none⟩)) w := fun _ => by kernel_rfl
  have mPop : ∀ w, Sem.run Try.prog (method 233 69 (.pointer (some ⟨B, 0, none⟩)) "Pop") w = .ok (83, .pointer (some ⟨B, 0, none⟩)) w := fun _ => by kernel_rfl
  have eLess := enters_of Try.func82 (by kernel_rfl) rfl
  have eSwap := enters_of Try.func85 (by kernel_rfl) rfl
  have eLen := enters_of Try.func27 (by kernel_rfl) rfl
  have ePush := enters_of Try.func84 (by kernel_rfl) rfl
  have ePop := enters_of Try.func83 (by kernel_rfl) rfl
  have hl0 := (List.getElem?_eq_some_iff.1 hx).1
  obtain ⟨m, hm⟩ : ∃ m, L.length - 1 = m := ⟨_, rfl⟩
  obtain ⟨y, hy⟩ : ∃ y, L[m]? = some y := ⟨_, List.getElem?_eq_getElem (by omega)⟩
  have wm : IntKind.i64.wrap ((L.length : Int) - 1) = (m : Int) := by rw [IntWalk.i64_in _ (by omega)]; omega
  have H := Lib.hid h
  have HP := Lib.hid hp
  have HX := Lib.hid hx
  have HY := Lib.hid hy
  clear h hp hx hy
  go_enter Try.func37, Try.ntmps37
  go_wp2_with fail
  with_reducible refine (plen_ok base B bm sv L N w H.out).mono ?_
  rintro e w ⟨rfl, rfl⟩
  by_cases him : m = i
  · subst him
    have e0 : ((m : Int) != (m : Int)) = false := by simp
    go_wp2_with fail
    have HXm : Hid (L[L.length - 1]? = some x) := by show _ = _; rw [hm]; exact HX.out
    with_reducible refine (ppop_ok base B bm sv L N x HXm.out (by omega) w H.out).mono ?_
    rintro e w3 hE
    have HFin := Lib.hid (pop_fin (i := m) (List.Perm.refl L) HXm.out (HP.out.mono (Nat.sub_le _ _) (fun _ _ => rfl)) (Turn.of_below (Below.refl _ _)) hE)
    obtain ⟨sv3, rfl, _⟩ := hE
    go_wp2_with fail
    go_ret
    exact HFin.out
  · have e0 : ((m : Int) != (i : Int)) = true := by simp; omega
    have e1 : (m == i) = false := by simpa using him
    have e2 : ((m : Int) == (i : Int)) = false := by rw [beq_eq_false_iff_ne]; omega
    go_wp2_with fail
    with_reducible refine (swap_ok base B bm sv L N i m x y HX.out HY.out w H.out).mono ?_
    rintro e w1 ⟨rfl, hA1, ht1⟩
    have HA1 := Lib.hid hA1
    have HT1 := Lib.hid ht1
    clear hA1 ht1
    go_wp2_with fail
    have HD : Hid (DnG (gK (swapL L i m x y)) m i False) := HP.out.change (by omega) (fun j hj h0 => gK_congr (by rw [swapL_get HX.out HY.out, if_neg (by omega), if_neg h0]))
    with_reducible refine (down_ok base B bm sv (swapL L i m x y) N i m (by rw [swapL_len]; omega) (by rw [swapL_len]; omega) (by omega) w1 HA1.out HD.out).mono ?_
    rintro e w2 ⟨L2, mv, rfl, hA2, ht2, hp2, hr2, hm2, hn2⟩
    have hl2 : L2.length = L.length := by rw [hp2.length_eq, swapL_len]
    have hxm : L2[m]? = some x := by rw [hr2 m (Nat.le_refl _), swapL_get HX.out HY.out, if_pos rfl]
    have hT2 := HT1.out.trans ht2
    have hp3 := hp2.trans (swapL_perm HX.out HY.out)
    cases mv with
    | true =>
      have HPm : Hid (L2.Perm L) := hp3
      have HXm : Hid (L2[L2.length - 1]? = some x) := by show _ = _; rw [hl2, hm]; exact hxm
      have HHm : Hid (HeapG (gK L2) (L2.length - 1)) := by show HeapG _ _; rw [hl2, hm]; exact hm2 rfl
      have HA2 := Lib.hid hA2
      have HT2 := Lib.hid hT2
      clear hA2 ht2 hp2 hr2 hm2 hn2 hT2 hp3 hxm
      go_wp2_with fail
      with_reducible refine (ppop_ok base B bm sv L2 N x HXm.out (by omega) w2 HA2.out).mono ?_
      rintro e w3 hE
      have HFin := Lib.hid (pop_fin (i := i) HPm.out HXm.out HHm.out HT2.out hE)
      obtain ⟨sv3, rfl, _⟩ := hE
      go_wp2_with fail
      go_ret
      exact HFin.out
    | false =>
      obtain ⟨e3, e4⟩ := hn2 rfl
      subst e3
      have HU : Hid (UpG (gK (swapL L i m x y)) m i) := HD.out.up e4
      have HA2 := Lib.hid hA2
      have HT2 := Lib.hid hT2
      clear hA2 ht2 hp2 hr2 hm2 hn2 hT2 hp3 hxm e4
      go_wp2_with fail
      with_reducible refine (up_ok base B bm sv (swapL L i m x y) N i m (by rw [swapL_len]; omega) (by rw [swapL_len]; omega) (by omega) w2 HA2.out HU.out).mono ?_
      rintro e w4 ⟨L4, rfl, hA4, ht4, hp4, hr4, hg4⟩
      have hl4 : L4.length = L.length := by rw [hp4.length_eq, swapL_len]
      have HPm : Hid (L4.Perm L) := hp4.trans (swapL_perm HX.out HY.out)
      have HXm : Hid (L4[L4.length - 1]? = some x) := by show _ = _; rw [hl4, hm, hr4 m (Nat.le_refl _), swapL_get HX.out HY.out, if_pos rfl]
      have HHm : Hid (HeapG (gK L4) (L4.length - 1)) := by show HeapG _ _; rw [hl4, hm]; exact hg4
      have HA4 := Lib.hid hA4
      have HT4 := Lib.hid (HT2.out.trans ht4)
      clear hA4 ht4 hp4 hr4 hg4
      go_wp2_with fail
      with_reducible refine (ppop_ok base B bm sv L4 N x HXm.out (by omega) w4 HA4.out).mono ?_
      rintro e w3 hE
      have HFin := Lib.hid (pop_fin (i := i) HPm.out HXm.out HHm.out HT4.out hE)
      obtain ⟨sv3, rfl, _⟩ := hE
      go_wp2_with fail
      go_ret
      exact HFin.out

def HFixEnd (w : World) (base B bm : Nat) (sv : Value) (L : List It) (N : Int) (e : Ending) (w' : World) : Prop :=
  ∃ L', e = .returned (.tuple #[]) ∧ PAt w' base B bm sv L' N ∧ Turn (PAt.bs B bm sv) w w' ∧ L'.Perm L ∧ HeapG (gK L') L'.length
set_option maxHeartbeats 4000000 in
set_option maxRecDepth 100000 in
theorem hfix_ok (base B bm : Nat) (sv : Value) (L : List It) (N : Int) (i : Nat) (hi : i < L.length) (hl : L.length ≤ 100000) (w : World) (h : PAt w base B bm sv L N) (hd : DnG (gK L) L.length i False) :
    Calls Try.prog 31 #[IF B, .int .i64 i] w (HFixEnd w base B bm sv L N) := by
  have mLess : ∀ w, Sem.run Try.prog (method 233 69 (.pointer (some ⟨B, 0, none⟩)) "Less") w = .ok (82, .pointer (some ⟨B, 0, none⟩)) w := fun _ => by kernel_rfl
  have mSwap : ∀ w, Sem.run Try.prog (method 233 69 (.pointer (some ⟨B, 0, none⟩)) "Swap") w = .ok (85, .pointer (some ⟨B, 0, none⟩)) w := fun _ => by kernel_rfl
  have mLen : ∀ w, Sem.run Try.prog (method 233 69 (.pointer (some ⟨B, 0, none⟩)) "Len") w = .ok (27, .pointer (some ⟨B, 0, none⟩)) w := fun _ => by kernel_rfl
  have mPush : ∀ w, Sem.run Try.prog (method 233 69 (.pointer (some ⟨B, 0, none⟩)) "Push") w = .ok (84, .pointer (some ⟨B, 0, none⟩)) w := fun _ => by kernel_rfl
  have mPop : ∀ w, Sem.run Try.prog (method 233 69 (.pointer (some ⟨B, 0, none⟩)) "Pop") w = .ok (83, .pointer (some ⟨B, 0, none⟩)) w := fun _ => by kernel_rfl
  have eLess := enters_of Try.func82 (by kernel_rfl) rfl
  have eSwap := enters_of Try.func85 (by kernel_rfl) rfl
  have eLen := enters_of Try.func27 (by kernel_rfl) rfl
  have ePush := enters_of Try.func84 (by kernel_rfl) rfl
  have ePop := enters_of Try.func83 (by kernel_rfl) rfl
  have H := Lib.hid h
  have HD := Lib.hid hd
  clear h hd
  go_enter Try.func31, Try.ntmps31
  go_wp2_with fail
  with_reducible refine (plen_ok base B bm sv L N w H.out).mono ?_
  rintro e w ⟨rfl, rfl⟩
  go_wp2_with fail
  with_reducible refine (down_ok base B bm sv L N i L.length (Nat.le_refl _) (by omega) (by omega) w H.out HD.out).mono ?_
  rintro e w2 ⟨L2, mv, rfl, hA2, ht2, hp2, hr2, hm2, hn2⟩
  have hl2 : L2.length = L.length := hp2.length_eq
  cases mv with
  | true =>
    have HFin : Hid (HFixEnd w base B bm sv L N (.returned (.tuple #[])) w2) := ⟨L2, rfl, hA2, ht2, hp2, by rw [hl2]; exact hm2 rfl⟩
    clear hA2 ht2 hp2 hr2 hm2 hn2
    go_wp2_with fail
    go_end0
    exact HFin.out
  | false =>
    obtain ⟨e3, e4⟩ := hn2 rfl
    subst e3
    have HU : Hid (UpG (gK L2) L2.length i) := HD.out.up e4
    have HA2 := Lib.hid hA2
    have HT2 := Lib.hid ht2
    clear hA2 ht2 hp2 hr2 hm2 hn2 e4
    go_wp2_with fail
    with_reducible refine (up_ok base B bm sv L2 N i L2.length (Nat.le_refl _) (by omega) hi w2 HA2.out HU.out).mono ?_
    rintro e w4 ⟨L4, rfl, hA4, ht4, hp4, hr4, hg4⟩
    have HFin : Hid (HFixEnd w base B bm sv L2 N (.returned (.tuple #[])) w4) := ⟨L4, rfl, hA4, HT2.out.trans ht4, hp4, by rw [hp4.length_eq]; exact hg4⟩
    clear hA4 ht4 hp4 hr4 hg4
    go_wp2_with fail
    go_end0
    exact HFin.out

end Go.Proofs.Ytgcncnmkfpfccaa
