/- container/heap: Push, Pop, Remove, Fix. -/
import Derived.Test.YtgcncnmkfpfccaaAgG
namespace Go.Proofs.Ytgcncnmkfpfccaa
open Go.RowKit Go.Sort Go.Shelf
set_option linter.unusedVariables false
set_option linter.unusedSimpArgs false

theorem Turn.over {w w1 w2 : World} {bs bs' : List Nat} (h : Turn bs w w1) (k : Turn bs' w1 w2) (hs : ∀ b ∈ bs', b ∈ bs ∨ w.heap.size ≤ b) : Turn bs w w2 :=
  ⟨k.os.trans h.os, k.tape.trans h.tape, k.output.trans h.output, Nat.le_trans h.size k.size, fun i hi hn => (k.block i (Nat.lt_of_lt_of_le hi h.size) fun hb => by
    rcases hs i hb with h1 | h1
    · exact hn h1
    · omega).trans (h.block i hi hn)⟩
theorem bs_sub {B bm : Nat} {sv sv' : Value} {n : Nat} (h : ∀ g, sv'.ownBlock = some g → sv.ownBlock = some g ∨ n ≤ g) : ∀ b ∈ PAt.bs B bm sv', b ∈ PAt.bs B bm sv ∨ n ≤ b := fun b hb => by
  unfold PAt.bs at hb ⊢
  rcases List.mem_cons.1 hb with rfl | hb
  · exact Or.inl (by simp)
  · rcases List.mem_cons.1 hb with rfl | hb
    · exact Or.inl (by simp)
    · rcases h b (Option.mem_toList.1 hb) with h1 | h1
      · exact Or.inl (by rw [h1]; simp)
      · exact Or.inr h1
def HPushEnd (w : World) (base B bm : Nat) (sv : Value) (L : List It) (N : Int) (e : Ending) (w' : World) : Prop :=
  ∃ sv' L', e = .returned (.tuple #[]) ∧ PAt w' base B bm sv' L' N ∧ Turn (PAt.bs B bm sv) w w' ∧ (∀ g, sv'.ownBlock = some g → sv.ownBlock = some g ∨ w.heap.size ≤ g) ∧ L'.Perm L ∧ HeapG (gK L') L'.length
set_option maxHeartbeats 4000000 in
set_option maxRecDepth 100000 in
theorem hpush_ok (base B bm : Nat) (sv : Value) (L : List It) (N : Int) (x : It) (hn : Nos (L ++ [x])) (hx : (Lit.int .i64 x.n).wf = true) (hl : L.length ≤ 100000) (w : World) (hbase : base ≤ w.heap.size) (h : PAt w base B bm sv L N) (hp : HeapG (gK L) L.length) :
    Calls Try.prog 36 #[IF B, .iface 31 (.agg (encI x).toArray)] w (HPushEnd w base B bm sv (L ++ [x]) N) := by
  have mLess : ∀ w, Sem.run Try.prog (method 233 69 (.pointer (some ⟨B, 0, none⟩)) "Less") w = .ok (82, .pointer (some ⟨B, 0, none⟩)) w := fun _ => by kernel_rfl
  have mSwap : ∀ w, Sem.run Try.prog (method 233 69 (.pointer (some ⟨B, 0, none⟩)) "Swap") w = .ok (85, .pointer (some ⟨B, 0, none⟩)) w := fun _ => by kernel_rfl
  have mLen : ∀ w, Sem.run Try.prog (method 233 69 (.pointer (some ⟨B, 0, none⟩)) "Len") w = .ok (27, .pointer (some ⟨B, 0, none⟩)) w := fun _ => by kernel_rfl
  have mPush : ∀ w, Sem.run Try.prog (method 233 69 (.pointer (some ⟨B, 0, none⟩)) "Push") w = .ok (84, .pointer (some ⟨B, 0, none⟩)) w := fun _ => by kernel_rfl
  have mPop : ∀ w, Sem.run Try.prog (method 233 69 (.pointer (some ⟨B, 0, none⟩)) "Pop") w = .ok (83, .pointer (some ⟨B, 0, none⟩)) w := fun _ => by kernel_rfl
  have eLess := enters_of Try.func82 (by kernel_rfl) rfl
  have eSwap := enters_of Try.func85 (by kernel_rfl) rfl
  have eLen := enters_of Try.func27 (by kernel_rfl) rfl
  have ePush := enters_of Try.func84 (by kernel_rfl) rfl
  have ePop := enters_of Try.func83 (by kernel_rfl) rfl
  have H := Lib.hid h
  have HP := Lib.hid hp
  have HN := Lib.hid hn
  clear h hp hn
  go_enter Try.func36, Try.ntmps36
  go_wp2_with fail
  with_reducible refine (ppush_ok base B bm sv L N x HN.out hx (by omega) w hbase H.out).mono ?_
  rintro e w1 ⟨sv1, rfl, hA, ht, hs⟩
  have HA := Lib.hid hA
  have HT := Lib.hid ht
  have HS := Lib.hid hs
  clear hA ht hs
  go_wp2_with fail
  with_reducible refine (plen_ok base B bm sv1 (L ++ [x]) N w1 HA.out).mono ?_
  rintro e w1 ⟨rfl, rfl⟩
  have wm : IntKind.i64.wrap (((L ++ [x]).length : Int) - 1) = (L.length : Int) := by rw [IntWalk.i64_in _ (by rw [List.length_append, List.length_singleton]; omega), List.length_append, List.length_singleton]; omega
  go_wp2_with fail
  have HU : Hid (UpG (gK (L ++ [x])) (L.length + 1) L.length) := HP.out.push (fun j hj => gK_congr (by rw [List.getElem?_append_left hj]))
  with_reducible refine (up_ok base B bm sv1 (L ++ [x]) N L.length (L.length + 1) (by simp) (by simp; omega) (by omega) w1 HA.out HU.out).mono ?_
  rintro e w2 ⟨L', rfl, hA2, ht2, hp2, _, hg2⟩
  have HFin : Hid (HPushEnd w base B bm sv (L ++ [x]) N (.returned (.tuple #[])) w2) := by
    refine ⟨sv1, L', rfl, hA2, HT.out.over ht2 (bs_sub HS.out), HS.out, hp2, ?_⟩
    rw [hp2.length_eq, List.length_append, List.length_singleton]
    exact hg2
  clear hA2 ht2 hp2 hg2
  go_wp2_with fail
  go_end0
  exact HFin.out

def HPopEnd (w : World) (base B bm : Nat) (sv : Value) (L : List It) (N : Int) (i : Nat) (x : It) (e : Ending) (w' : World) : Prop :=
  ∃ sv' L', e = .returned (.iface 31 (.agg (encI x).toArray)) ∧ PAt w' base B bm sv' L' N ∧ Turn (PAt.bs B bm sv) w w' ∧ sv'.ownBlock = sv.ownBlock ∧ (L' ++ [x]).Perm L ∧ HeapG (gK L') L'.length
theorem pop_fin {w w1 : World} {base B bm : Nat} {sv : Value} {L L2 : List It} {N : Int} {i : Nat} {x : It} {e : Ending} (hp : L2.Perm L) (hx : L2[L2.length - 1]? = some x) (hh : HeapG (gK L2) (L2.length - 1)) (ht : Turn (PAt.bs B bm sv) w w1) {w2 : World} (hE : PopEnd w1 base B bm sv (L2.take (L2.length - 1)) N x e w2) : HPopEnd w base B bm sv L N i x e w2 := by
  obtain ⟨sv', he, hA, ht2, hs⟩ := hE
  have hl := (List.getElem?_eq_some_iff.1 hx).1
  refine ⟨sv', _, he, hA, ht.trans ht2, hs, ?_, ?_⟩
  · refine List.Perm.trans ?_ hp
    have h1 : L2 = L2.take (L2.length - 1) ++ [x] := by
      have h2 := (List.take_append_drop (L2.length - 1) L2).symm
      rw [List.drop_eq_getElem_cons hl, (List.getElem?_eq_some_iff.1 hx).2, List.drop_of_length_le (by omega)] at h2
      exact h2
    exact List.Perm.of_eq h1.symm
  · rw [List.length_take, Nat.min_eq_left (by omega)]
    exact hh.mono (Nat.le_refl _) (fun j hj => gK_congr (List.getElem?_take_of_lt hj))
set_option maxHeartbeats 4000000 in
set_option maxRecDepth 100000 in
theorem hpop_ok (base B bm : Nat) (sv : Value) (L : List It) (N : Int) (x : It) (hx : L[0]? = some x) (hl : L.length ≤ 100000) (w : World) (h : PAt w base B bm sv L N) (hp : HeapG (gK L) L.length) :
    Calls Try.prog 28 #[IF B] w (HPopEnd w base B bm sv L N 0 x) := by
  have mLess : ∀ w, Sem.run Try.prog (method 233 69 (.pointer (some ⟨B, 0, none⟩)) "Less") w = .ok (82, .pointer (some ⟨B, 0, none⟩)) w := fun _ => by kernel_rfl
  have mSwap : ∀ w, Sem.run Try.prog (method 233 69 (.pointer (some ⟨B, 0, none⟩)) "Swap") w = .ok (85, .pointer (some ⟨B, 0, none⟩)) w := fun _ => by kernel_rfl
  have mLen : ∀ w, Sem.run Try.prog (method 233 69 (.pointer (some ⟨B, 0, none⟩)) "Len") w = .ok (27, .pointer (some ⟨B, 0, none⟩)) w := fun _ => by kernel_rfl
  have mPush : ∀ w, Sem.run Try.prog (method 233 69 (.pointer (some ⟨B, 0, none⟩)) "Push") w = .ok (84, .pointer (some ⟨B, 0, none⟩)) w := fun _ => by kernel_rfl
  have mPop : ∀ w, Sem.run Try.prog (method 233 69 (.pointer (some ⟨B, 0, none⟩)) "Pop") w = .ok (83, .pointer (some ⟨B, 0, none⟩)) w := fun _ => by kernel_rfl
  have eLess := enters_of Try.func82 (by kernel_rfl) rfl
  have eSwap := enters_of Try.func85 (by kernel_rfl) rfl
  have eLen := enters_of Try.func27 (by kernel_rfl) rfl
  have ePush := enters_of Try.func84 (by kernel_rfl) rfl
  have ePop := enters_of Try.func83 (by kernel_rfl) rfl
  have hl0 := (List.getElem?_eq_some_iff.1 hx).1
  obtain ⟨m, hm⟩ : ∃ m, L.length - 1 = m := ⟨_, rfl⟩
  obtain ⟨y, hy⟩ : ∃ y, L[m]? = some y := ⟨_, List.getElem?_eq_getElem (by omega)⟩
  have wm : IntKind.i64.wrap ((L.length : Int) - 1) = (m : Int) := by rw [IntWalk.i64_in _ (by omega)]; omega
  have H := Lib.hid h
  have HP := Lib.hid hp
  have HX := Lib.hid hx
  have HY := Lib.hid hy
  clear h hp hx hy
  go_enter Try.func28, Try.ntmps28
  go_wp2_with fail
  with_reducible refine (plen_ok base B bm sv L N w H.out).mono ?_
  rintro e w ⟨rfl, rfl⟩
  go_wp2_with fail
  have HC := Lib.hid (swap_ok base B bm sv L N 0 m x y HX.out HY.out w H.out)
  have hC : Calls Try.prog 85 #[.pointer (some ⟨B, 0, none⟩), .int .i64 0, .int .i64 m] w (SwapEnd w base B bm sv (swapL L 0 m x y) N) := HC.out
  with_reducible refine hC.mono ?_
  rintro e w1 ⟨rfl, hA1, ht1⟩
  have HA1 := Lib.hid hA1
  have HT1 := Lib.hid ht1
  clear hA1 ht1 hC HC
  go_wp2_with fail
  have HD : Hid (DnG (gK (swapL L 0 m x y)) m 0 False) := HP.out.change (by omega) (fun j hj h0 => gK_congr (by rw [swapL_get HX.out HY.out, if_neg (by omega), if_neg h0]))
  have hC : Calls Try.prog 38 #[IF B, .int .i64 0, .int .i64 m] w1 (DownEnd w1 base B bm sv (swapL L 0 m x y) N 0 m) := down_ok base B bm sv _ N 0 m (by rw [swapL_len]; omega) (by rw [swapL_len]; omega) (by omega) w1 HA1.out HD.out
  with_reducible refine hC.mono ?_
  rintro e w2 ⟨L2, mv, rfl, hA2, ht2, hp2, hr2, hm2, hn2⟩
  have hl2 : L2.length = L.length := by rw [hp2.length_eq, swapL_len]
  have HPm : Hid (L2.Perm L) := hp2.trans (swapL_perm HX.out HY.out)
  have HXm : Hid (L2[L2.length - 1]? = some x) := by
    show _ = _
    rw [hl2, hm, hr2 m (Nat.le_refl _), swapL_get HX.out HY.out, if_pos rfl]
  have HHm : Hid (HeapG (gK L2) (L2.length - 1)) := by
    show HeapG _ _
    rw [hl2, hm]
    cases mv with
    | true => exact hm2 rfl
    | false =>
      obtain ⟨e1, e2⟩ := hn2 rfl
      subst e1
      exact fun c h0 hc => e2 c h0 hc (by omega)
  have HA2 := Lib.hid hA2
  have HT2 := Lib.hid (HT1.out.trans ht2)
  clear hA2 ht2 hp2 hr2 hm2 hn2 hC
  go_wp2_with fail
  with_reducible refine (ppop_ok base B bm sv L2 N x HXm.out (by omega) w2 HA2.out).mono ?_
  rintro e w3 hE
  have HFin := Lib.hid (pop_fin (i := 0) HPm.out HXm.out HHm.out HT2.out hE)
  obtain ⟨sv3, rfl, _⟩ := hE
  go_wp2_with fail
  go_ret
  exact HFin.out

end Go.Proofs.Ytgcncnmkfpfccaa
