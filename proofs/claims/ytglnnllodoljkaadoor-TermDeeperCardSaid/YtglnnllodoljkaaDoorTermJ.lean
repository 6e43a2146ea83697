/- Package term: the iterator kids, each thing that it gives known to be one of them; deep. -/
import Derived.Test.YtglnnllodoljkaaDoorTermE
import Derived.Stop.RegionWithIn
namespace Go.Proofs.YtglnnllodoljkaaDoor
open Go.RowKit Go.Shelf
set_option linter.unusedVariables false
set_option linter.unusedSimpArgs false
attribute [local go_sem] Oper.semAt_some

/-- What the iterator hands on at its k-th round. -/
def encF (ns : List Nd) (i M : Nat) (k : Fin M) : Array Value := #[.int .i64 ((k.val : Nat) : Int), .int .i64 (place ns i k.val : Int)]
theorem fin_take {M k : Nat} (h : k < M) : (List.finRange M).take (k + 1) = (List.finRange M).take k ++ [⟨k, h⟩] := by
  rw [List.take_succ_eq_append_getElem (by simpa using h)]
  simp

set_option maxRecDepth 100000 in
set_option maxHeartbeats 2000000 in
theorem kids_each (n : Nat) (hn : 1 ≤ n) (M : Nat) (X n₀ Bi Bt i : Nat) (a : Option Addr) (cap : Nat) (ns : List Nd) (hl : ns.length ≤ 1000000) (q : Nat) (hq : skip 1 ((opsOf ns).drop i) = some q) (hM : mny (Nd.at ns i).op = M) (w0 : World) (hK0 : KidsAt w0 n₀ Bi Bt i a cap ns)
    (hn0 : n₀ ≤ w0.heap.size) (h0 : 0 < n₀) (ha : ∀ x, a = some x → x.block < n₀) (h1 : Bi < n₀) (h2 : Bt < n₀) (x0 : 0 ≠ X) (xa : ∀ x, a = some x → x.block ≠ X) (x1 : Bi ≠ X) (x2 : Bt ≠ X) :
    SeqStopsK Fence.wide n Tryd.prog 44 #[.pointer (some ⟨Bi, 0, none⟩), .pointer (some ⟨Bt, 0, none⟩)] (encF ns i M) (But n₀ X) (fun xs => xs = List.finRange M) (fun pre => pre <+: List.finRange M) M w0 := fun l J Jx W hW hJ hJx hY hJ0 => by
  have hi : i < ns.length := by
    rcases Nat.lt_or_ge i ns.length with h | h
    · exact h
    · rw [skip_over h] at hq; cases hq
  have hop0 : shp (Nd.at ns i).op 0 ≠ 0 := fun h => by rw [skip_none hi h] at hq; cases hq
  obtain ⟨r, hr⟩ : ∃ r, skip (mny (Nd.at ns i).op) ((opsOf ns).drop (i + 1)) = some r := by
    rw [skip_one hi hop0] at hq
    cases e : skip (mny (Nd.at ns i).op) ((opsOf ns).drop (i + 1)) with
    | none => rw [e] at hq; cases hq
    | some r => exact ⟨r, rfl⟩
  have hKW := hK0.below (hW.mono hn0) h0 ha h1 h2
  obtain ⟨b, o, rfl, hc⟩ := hKW.hN (by omega)
  have c0 : W.cell? ⟨b, o + i * 5, none⟩ = some (.int .i64 (Nd.at ns i).op) := hc i hi 0 _ rfl
  clear hc hq hop0
  obtain ⟨op, hop⟩ : ∃ op, (Nd.at ns i).op = op := ⟨_, rfl⟩
  rw [hop] at c0 hr hM
  clear hop
  obtain ⟨hm1, hm2⟩ := mny_int op
  have HF := Lib.hid (of_ok op W hKW.hS)
  unfold shapeV at HF
  rw [← hm1] at HF
  rw [hM] at HF hr hm2
  clear hm1 hM
  have q1 := hKW.hi
  have q2 := hKW.ht
  have hi' : (i : Int) < (ns.length : Int) := by omega
  have HK := Lib.hid hKW
  have zW := hW.size
  have hbn : b < n₀ := ha _ rfl
  clear hKW hK0
  refine callsIn_of_wp Tryd.func44 rfl trivial ?_ rfl
  simp only [Tryd.ntmps44, List.size_toArray, List.length_cons, List.length_nil, Nat.reduceAdd, Nat.reduceSub, Array.replicate_succ, Array.replicate_zero, List.push_toArray, List.append_toArray, List.nil_append, List.cons_append]
  gi_wp2_with fail
  refine ⟨trivial, ?_⟩
  with_reducible refine (callsIn_wide.2 HF.out).mono ?_
  rintro e w1 ⟨rfl, hb1⟩
  have hf := fun w => shape_field1 (.int .i64 (shp op 0)) (.int .i64 M) (.int .i64 (shp op 2)) (.int .i64 (shp op 3)) (.int .i64 (shp op 4)) (.int .i64 (shp op 5)) w
  have hK1 := Lib.hid (HK.out.below hb1 (by omega) (fun x e => by have := ha x e; omega) (by omega) (by omega))
  have z1 := hb1.size
  have hJ1 : J [] w1 := hJ [] W w1 none hJ0 (below_grown hb1) (by rintro r ⟨⟩)
  gi_wp2_with fail
  gi_loopw [4, 15] (fun p c wr => ∃ k j : Nat, k ≤ M ∧ p = .int .i64 (j : Int) ∧ Hid (place ns i k = j) ∧ c = .int .i64 (k : Int) ∧ J ((List.finRange M).take k) wr ∧ Hid (KidsAt wr n₀ Bi Bt i (some ⟨b, o, none⟩) cap ns) ∧ n₀ ≤ wr.heap.size ∧ W.heap.size ≤ wr.heap.size) (fun _ c _ => M - (intOf c).toNat)
  case atStart => exact ⟨0, i + 1, by omega, by simp, place_zero ns i, rfl, hJ1, hK1, by omega, by omega⟩
  case round =>
    obtain ⟨k, j, hk, rfl, HP, rfl, hJk, hKk, zk, zk'⟩ := hrel
    clear hJ1 hK1 c0 q1 q2
    have q2 := hKk.out.ht
    by_cases hlt : k < M
    · have hlt' : (k : Int) < (M : Int) := by omega
      obtain ⟨fn, tmps, assign, body, hy, hR⟩ := hY _ (⟨k, hlt⟩ : Fin M) wr hJk (by rw [List.length_take, List.length_finRange]; omega)
      dsimp only [encF] at hy
      rw [HP.out] at hy
      gi_wp2_with fail
      refine hR.mono ?_
      rintro e w3 (⟨rfl, hJ3, hk3⟩ | ⟨rfl, hJx3⟩)
      · rw [← fin_take hlt] at hJ3
        have hK3 := Lib.hid (hKk.out.but hk3 h0 ha h1 h2 x0 xa x1 x2)
        have q3 := hK3.out.ht
        have z3 := hk3.size
        obtain ⟨x, hx1, hx2⟩ := place_next hr hlt
        rw [HP.out] at hx1 hx2
        have hpl := (place_le hr hi (show k + 1 ≤ M by omega)).1
        have HE := Lib.hid (end_ok (some ⟨b, o, none⟩) cap ns hl (ns.length - j) j (Nat.le_refl _) (by omega) w3 hK3.out.hS hK3.out.hN)
        rw [endV_some hx1, ← hx2] at HE
        obtain ⟨j', hj'⟩ : ∃ j', place ns i (k + 1) = j' := ⟨_, rfl⟩
        rw [hj'] at HE
        have HP' := Lib.hid hj'
        clear hx1 hx2 hpl hj'
        gi_wp2_with fail
        refine ⟨trivial, ?_⟩
        with_reducible refine (callsIn_wide.2 HE.out).mono ?_
        rintro e w4 ⟨rfl, hb4⟩
        have hJ4 : J ((List.finRange M).take (k + 1)) w4 := hJ _ w3 w4 none hJ3 (below_grown hb4) (by rintro r ⟨⟩)
        have hK4 := Lib.hid (hK3.out.below hb4 (by omega) (fun x e => by have := ha x e; omega) (by omega) (by omega))
        have z4 := hb4.size
        gi_wp2_with fail
        go_roundw
        case rel => exact ⟨k + 1, j', by omega, rfl, HP', by go_num, hJ4, hK4, by omega, by omega⟩
        case measure => simp [intOf]; omega
      · rw [← fin_take hlt] at hJx3
        gi_wp2_with fail
        refine bodyPost_ret (results_none rfl _ _ _) rfl ?_
        exact ⟨⟨_, rfl⟩, .inr ⟨_, List.take_prefix _ _, hJx3⟩⟩
    · obtain rfl : k = M := by omega
      gi_wp2_with fail
      go_end0
      rw [List.take_of_length_le (by simp)] at hJk
      exact ⟨⟨_, rfl⟩, .inl ⟨_, rfl, hJk⟩⟩


end Go.Proofs.YtglnnllodoljkaaDoor
