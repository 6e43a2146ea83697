/- Package agenda: Swap. -/
import Derived.Test.YtgcncnmkfpfccaaAgB
namespace Go.Proofs.Ytgcncnmkfpfccaa
open Go.RowKit Go.Sort Go.Shelf
set_option linter.unusedVariables false
set_option linter.unusedSimpArgs false

def SwapEnd (w : World) (base B bm : Nat) (sv : Value) (L : List It) (N : Int) (e : Ending) (w' : World) : Prop :=
  e = .returned (.tuple #[]) ∧ PAt w' base B bm sv L N ∧ Turn (PAt.bs B bm sv) w w'
theorem put3_grown (w : World) (g i : Nat) (x : It) : w.grownBy (put3 w g i x) (some g) := grown_trans (grown_trans (grown_setCell _ _ _ _) (grown_setCell _ _ _ _)) (grown_setCell _ _ _ _)
/-- The map behind a swap. -/
theorem swap_map {w : World} {bm : Nat} {L : List It} {i k : Nat} {x y : It} (hi : L[i]? = some x) (hk : L[k]? = some y) (hn : Nos L)
    (h : MapAt OkN w bm ((.int .i64 x.n, .int .i64 (k : Int)) :: lessKey (.int .i64 x.n) ((.int .i64 y.n, .int .i64 (i : Int)) :: lessKey (.int .i64 y.n) (plcs L)))) : MapAt OkN w bm (plcs (swapL L i k x y)) := by
  refine h.congr (plcs_perm h.nodup (hn.perm (swapL_perm hi hk)) fun p => ?_)
  rw [plcs_mem, List.mem_cons, mem_lessKey, List.mem_cons, mem_lessKey, plcs_mem]
  constructor
  · rintro (rfl | ⟨rfl | ⟨⟨j, z, hz, rfl⟩, h2⟩, h1⟩)
    · exact ⟨k, x, by rw [swapL_get hi hk, if_pos rfl], rfl⟩
    · have hik : i ≠ k := fun e => h1 (by subst e; rw [hi] at hk; cases hk; rfl)
      exact ⟨i, y, by rw [swapL_get hi hk, if_neg hik, if_pos rfl], rfl⟩
    · have hjk : j ≠ k := fun e => h2 (by subst e; rw [hz] at hk; cases hk; rfl)
      have hji : j ≠ i := fun e => h1 (by subst e; rw [hz] at hi; cases hi; rfl)
      exact ⟨j, z, by rw [swapL_get hi hk, if_neg hjk, if_neg hji]; exact hz, rfl⟩
  · rintro ⟨j, z, hz, rfl⟩
    rw [swapL_get hi hk] at hz
    by_cases hjk : j = k
    · rw [if_pos hjk] at hz
      cases hz
      exact Or.inl (by rw [hjk])
    · rw [if_neg hjk] at hz
      by_cases hji : j = i
      · rw [if_pos hji] at hz
        cases hz
        refine Or.inr ⟨Or.inl (by rw [hji]), fun e => hjk ?_⟩
        have e' : y.n = x.n := by simpa using e
        rw [hji]
        exact hn.one hi hk e'.symm
      · rw [if_neg hji] at hz
        refine Or.inr ⟨Or.inr ⟨⟨j, z, hz, rfl⟩, fun e => hjk ?_⟩, fun e => hji ?_⟩
        · exact hn.one hz hk (by simpa using e)
        · exact hn.one hz hi (by simpa using e)
set_option maxHeartbeats 4000000 in
theorem swap_ok (base B bm : Nat) (sv : Value) (L : List It) (N : Int) (i k : Nat) (x y : It) (hi : L[i]? = some x) (hk : L[k]? = some y) (w : World) (h : PAt w base B bm sv L N) :
    Calls Try.prog 85 #[.pointer (some ⟨B, 0, none⟩), .int .i64 i, .int .i64 k] w (SwapEnd w base B bm sv (swapL L i k x y) N) := by
  have li := (List.getElem?_eq_some_iff.1 hi).1
  have lk := (List.getElem?_eq_some_iff.1 hk).1
  have hne := h.ne
  obtain ⟨g, cap, rfl, hbg, hgl, _, _, hc⟩ := row_parts h.own rfl (by omega)
  have hgB := (hne.2 g rfl).1
  have hgm := (hne.2 g rfl).2
  have ho1 := own_put h.own li y
  have ho2 := own_put (by rw [List.length_set]; exact ho1) (by rw [List.length_set]; exact lk : k < (L.set i y).length) x
  rw [List.length_set] at ho2
  have hl1 : (L.set i y).length = L.length := List.length_set
  obtain ⟨z, hz⟩ : ∃ z, (L.set i y)[k]? = some z := ⟨_, List.getElem?_eq_getElem (by rw [hl1]; exact lk)⟩
  obtain ⟨g1, cap1, e1, _, _, _, _, hc1⟩ := row_parts ho1 hl1.symm (by rw [hl1]; omega)
  simp only [Value.slice.injEq, Option.some.injEq, Addr.mk.injEq, and_true, true_and] at e1
  obtain ⟨rfl, rfl⟩ := e1
  have hz1 := hc1 k z hz
  have hl2 : (swapL L i k x y).length = L.length := swapL_len _ _ _ _ _
  obtain ⟨g2, cap2, e2, _, _, _, _, hc2⟩ := row_parts (L := swapL L i k x y) ho2 hl2.symm (by rw [hl2]; omega)
  simp only [Value.slice.injEq, Option.some.injEq, Addr.mk.injEq, and_true, true_and] at e2
  obtain ⟨rfl, rfl⟩ := e2
  obtain ⟨gi, hgi⟩ : ∃ q, (swapL L i k x y)[i]? = some q := ⟨_, List.getElem?_eq_getElem (by rw [hl2]; exact li)⟩
  have hgk : (swapL L i k x y)[k]? = some x := by rw [swapL_get hi hk, if_pos rfl]
  have hgi' : gi.n = y.n := by
    rw [swapL_get hi hk] at hgi
    by_cases hik : i = k
    · subst hik; rw [hi] at hk; cases hk; rw [if_pos rfl] at hgi; cases hgi; rfl
    · rw [if_neg hik, if_pos rfl] at hgi; cases hgi; rfl
  have hnos := h.nos
  obtain ⟨⟨a0, a1, a2⟩, fa0, fa1, fa2⟩ := hc i x hi
  obtain ⟨⟨b0, b1, b2⟩, fb0, fb1, fb2⟩ := hc k y hk
  obtain ⟨⟨d0, d1, d2⟩, fd0, fd1, fd2⟩ := hz1
  have p1 := (hc2 i gi hgi).1.2.1
  rw [hgi'] at p1
  have p2 := (hc2 k x hgk).1.2.1
  have c0 : w.cell? ⟨B, 0, none⟩ = some (.slice (some ⟨g, 0, none⟩) L.length cap) := h.blk.cell 0 rfl
  have hg2 : w.grownBy (put3 (put3 w g i y) g k x) (some g) := grown_trans (put3_grown _ _ _ _) (put3_grown _ _ _ _)
  have kB := h.blk.grown hg2 (by simpa using hgB)
  have q0 := kB.cell 0 (v := .slice (some ⟨g, 0, none⟩) L.length cap) rfl
  have q1 := kB.cell 1 (v := .map (some bm)) rfl
  have hm2 := h.map.kept hg2 (by simpa using hgm)
  have i1 : (0 : Int) ≤ (i : Int) := by omega
  have i2 : (i : Int) < (L.length : Int) := by omega
  have k1 : (0 : Int) ≤ (k : Int) := by omega
  have k2 : (k : Int) < (L.length : Int) := by omega
  have H := Lib.hid h
  have HO2 := Lib.hid ho2
  have HM2 := Lib.hid hm2
  have HG2 := Lib.hid hg2
  have HKB := Lib.hid kB
  obtain ⟨Z, hZ⟩ : ∃ Z, put3 (put3 w g i y) g k x = Z := ⟨_, rfl⟩
  rw [hZ] at p1 p2 q0 q1
  have HZ := Lib.hid hZ
  have HI := Lib.hid hi
  have HK := Lib.hid hk
  have HN := Lib.hid hnos
  obtain ⟨xd, xn, xt⟩ := x
  obtain ⟨yd, yn, yt⟩ := y
  obtain ⟨zd, zn, zt⟩ := z
  dsimp only [put3] at a0 a1 a2 b0 b1 b2 d0 d1 d2 fd0 fd1 fd2 p1 p2
  clear h ho1 ho2 hc hc1 hc2 hm2 hg2 kB hZ hi hk hnos hgi hgi' hgk hz
  go_enter Try.func85, Try.ntmps85
  go_wp2_with fail
  go_region
  go_wp2_with fail
  have hZ := HZ.out
  dsimp only [put3] at hZ
  rw [hZ]
  clear hZ a0 a1 a2 b0 b1 b2 c0 d0 d1 d2 fa0 fa1 fa2 fb0 fb1 fb2 fd0 fd1 fd2
  obtain ⟨Z2, hZ2⟩ : ∃ X, Z.drew = X := ⟨_, rfl⟩
  have hbm : Z2.drew.heap[bm]? = Z.heap[bm]? := by rw [← hZ2]; rfl
  have hMZ : MapAt OkN Z bm (plcs L) := by have := HM2.out; rwa [HZ.out] at this
  have hY : (Value.int .i64 yn, Value.int .i64 (k : Int)) ∈ plcs L := plcs_mem.2 ⟨k, _, HK.out, rfl⟩
  have hX : (Value.int .i64 xn, Value.int .i64 (i : Int)) ∈ plcs L := plcs_mem.2 ⟨i, _, HI.out, rfl⟩
  have oX := hMZ.isOk _ hX
  obtain ⟨st1, he1, hs1⟩ := MapAt.entry_in keyN Try.underlying61 hMZ (hMZ.isOk _ hY) hY
  have r1 := he1 Z2.drew hbm
  obtain ⟨Z3, r2, hM3, hg3, hz3⟩ := hs1 Z2.drew (.int .i64 (i : Int)) hbm
  obtain ⟨v2, hX2⟩ : ∃ v, (Value.int .i64 xn, v) ∈ ((Value.int .i64 yn, Value.int .i64 (i : Int)) :: lessKey (.int .i64 yn) (plcs L)) := by
    by_cases e : xn = yn
    · subst e; exact ⟨_, List.mem_cons_self⟩
    · exact ⟨_, List.mem_cons_of_mem _ (mem_lessKey.2 ⟨hX, fun h => e (by simpa using h)⟩)⟩
  obtain ⟨st2, he2, hs2⟩ := MapAt.entry_in keyN Try.underlying61 hM3 oX hX2
  have r3 := he2 Z3 rfl
  obtain ⟨Z4, r4, hM4, hg4, hz4⟩ := hs2 Z3 (.int .i64 (k : Int)) rfl
  have s0 : Z2.cell? ⟨B, 0, none⟩ = some (.slice (some ⟨g, 0, none⟩) L.length cap) := by rw [← hZ2]; exact q0
  have s1 : Z2.cell? ⟨B, 1, none⟩ = some (.map (some bm)) := by rw [← hZ2]; exact q1
  have s2 : Z2.cell? ⟨g, i * 3 + 1, none⟩ = some (.int .i64 yn) := by rw [← hZ2]; exact p1
  have s3 : Z2.cell? ⟨g, k * 3 + 1, none⟩ = some (.int .i64 xn) := by rw [← hZ2]; exact p2
  have HT : Hid (Turn [bm] Z2 Z4) := by
    show Turn _ _ _
    have t1 : Turn [bm] Z2 Z2.drew := Turn.of_below ((Below.refl _ _).drew)
    exact (t1.trans (Turn.of_grown hg3 (by simp))).trans (Turn.of_grown hg4 (by simp))
  have HM4 := Lib.hid hM4
  have HZ2 := Lib.hid hZ2
  rw [hZ2]
  clear hZ2 hbm hMZ hY hX oX he1 hs1 hM3 hg3 hz3 hX2 he2 hs2 hM4 hg4 hz4 q0 q1 p1 p2
  have HFin : Hid (SwapEnd w base B bm (.slice (some ⟨g, 0, none⟩) L.length cap) (swapL L i k ⟨xd, xn, xt⟩ ⟨yd, yn, yt⟩) N (.returned (.tuple #[])) Z4) := by
    have hZ := HZ.out
    have hB := HKB.out
    have ho := HO2.out
    have hg := HG2.out
    rw [hZ] at hB ho hg
    have t0 : Turn [g] w Z := Turn.of_grown hg (by simp)
    have t1 : Turn [bm] Z Z2 := by rw [← HZ2.out]; exact Turn.of_below ((Below.refl _ _).drew)
    have t2 := t1.trans HT.out
    refine ⟨rfl, ⟨t2.blk hB (by simp; exact hne.1), ?_, swap_map HI.out HK.out HN.out HM4.out, H.out.hB, H.out.hm⟩, ?_⟩
    · rw [swapL_len]
      exact t2.own ho (fun g' hg' => by
        simp only [Value.ownBlock, Option.some.injEq] at hg'
        subst hg'
        simpa using hgm)
    · refine (t0.mono ?_).trans (t2.mono ?_)
      · intro b hb
        rw [List.mem_singleton.1 hb]
        simp [PAt.bs, Value.ownBlock]
      · intro b hb
        rw [List.mem_singleton.1 hb]
        simp [PAt.bs]
  go_region
  go_wp2_with fail
  go_end0
  exact HFin.out

end Go.Proofs.Ytgcncnmkfpfccaa
