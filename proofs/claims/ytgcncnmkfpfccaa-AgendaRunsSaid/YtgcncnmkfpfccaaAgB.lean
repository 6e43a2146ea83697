/- Package agenda: a pile in memory; Len, Less, Swap. -/
import Derived.Test.YtgcncnmkfpfccaaAgA
import Derived.Test.YtgcncnmkfpfccaaMapE
import Derived.Lib.AppendIntMem
namespace Go.Proofs.Ytgcncnmkfpfccaa
open Go.RowKit Go.Sort Go.Shelf
set_option linter.unusedVariables false
set_option linter.unusedSimpArgs false

/-- Numbers as keys. -/
def OkN (v : Value) : Prop := ∃ n : Int, v = .int .i64 n ∧ (Lit.int .i64 n).wf = true
theorem keyN : KeyLike Try.prog 3 OkN := KeyLike.ints Try.underlying3
/-- Where each item is. -/
def plcs (L : List It) : List (Value × Value) := (List.range L.length).map fun i => (.int .i64 (L.getD i default).n, .int .i64 (i : Int))
theorem plcs_mem {L : List It} {p : Value × Value} : p ∈ plcs L ↔ ∃ (i : Nat) (x : It), L[i]? = some x ∧ p = (.int .i64 x.n, .int .i64 (i : Int)) := by
  unfold plcs
  rw [List.mem_map]
  constructor
  · rintro ⟨i, hi, rfl⟩
    have hl := List.mem_range.1 hi
    exact ⟨i, L[i], List.getElem?_eq_getElem hl, by rw [List.getD_eq_getElem?_getD, List.getElem?_eq_getElem hl]; rfl⟩
  · rintro ⟨i, x, h, rfl⟩
    exact ⟨i, List.mem_range.2 (List.getElem?_eq_some_iff.1 h).1, by rw [List.getD_eq_getElem?_getD, h]; rfl⟩
theorem plcs_keys (L : List It) : (plcs L).map (·.1) = L.map fun x => Value.int .i64 x.n := by
  unfold plcs
  rw [List.map_map]
  refine List.ext_getElem (by simp) fun i h1 h2 => ?_
  simp only [List.length_map, List.length_range] at h1
  simp [List.getD_eq_getElem?_getD, List.getElem?_eq_getElem h1]
def Nos (L : List It) : Prop := (L.map It.n).Nodup
theorem nos_iff (L : List It) : ((plcs L).map (·.1)).Nodup ↔ Nos L := by
  rw [plcs_keys]
  unfold Nos
  rw [List.nodup_iff_pairwise_ne, List.nodup_iff_pairwise_ne, List.pairwise_map, List.pairwise_map]
  simp
theorem Nos.perm {L L' : List It} (h : Nos L) (p : L'.Perm L) : Nos L' := ((p.map It.n).nodup_iff).2 h
theorem Nos.one {L : List It} (h : Nos L) {i k : Nat} {x y : It} (hi : L[i]? = some x) (hk : L[k]? = some y) (e : x.n = y.n) : i = k := by
  have a : (L.map It.n)[i]? = some x.n := by rw [List.getElem?_map, hi]; rfl
  have b : (L.map It.n)[k]? = some y.n := by rw [List.getElem?_map, hk]; rfl
  rw [e] at a
  obtain ⟨a1, a2⟩ := List.getElem?_eq_some_iff.1 a
  obtain ⟨b1, b2⟩ := List.getElem?_eq_some_iff.1 b
  exact (List.getElem_inj h).1 (a2.trans b2.symm)
theorem plcs_perm {M : List (Value × Value)} {L : List It} (hM : (M.map (·.1)).Nodup) (hL : Nos L) (h : ∀ p, p ∈ M ↔ p ∈ plcs L) : M.Perm (plcs L) := by
  have n1 : M.Nodup := List.Pairwise.imp (fun {a b} hab e => hab (by rw [e])) (List.pairwise_map.1 (List.nodup_iff_pairwise_ne.1 hM))
  have n2 : (plcs L).Nodup := List.Pairwise.imp (fun {a b} hab e => hab (by rw [e])) (List.pairwise_map.1 (List.nodup_iff_pairwise_ne.1 ((nos_iff L).2 hL)))
  exact (List.perm_ext_iff_of_nodup n1 n2).2 h
/-- Two items change their places. -/
def swapL (L : List It) (i k : Nat) (x y : It) : List It := (L.set i y).set k x
theorem swapL_len (L : List It) (i k : Nat) (x y : It) : (swapL L i k x y).length = L.length := by simp [swapL]
theorem swapL_get {L : List It} {i k : Nat} {x y : It} (hi : L[i]? = some x) (hk : L[k]? = some y) (j : Nat) : (swapL L i k x y)[j]? = if j = k then some x else if j = i then some y else L[j]? := by
  have li := (List.getElem?_eq_some_iff.1 hi).1
  have lk := (List.getElem?_eq_some_iff.1 hk).1
  unfold swapL
  rw [List.getElem?_set, List.getElem?_set]
  by_cases h1 : k = j
  · subst h1; simp [lk]
  · rw [if_neg h1, if_neg (Ne.symm h1)]
    by_cases h2 : i = j
    · subst h2; simp [li]
    · rw [if_neg h2, if_neg (Ne.symm h2)]
theorem swapL_perm {L : List It} {i k : Nat} {x y : It} (hi : L[i]? = some x) (hk : L[k]? = some y) : (swapL L i k x y).Perm L := by
  obtain ⟨li, ei⟩ := List.getElem?_eq_some_iff.1 hi
  obtain ⟨lk, ek⟩ := List.getElem?_eq_some_iff.1 hk
  unfold swapL
  have h : ((L.set i L[k]).set k L[i]).Perm L := List.set_set_perm li lk
  rwa [ei, ek] at h

/-- An agenda in memory: its items as they lie in the heap. -/
structure PAt (w : World) (base B bm : Nat) (sv : Value) (L : List It) (N : Int) : Prop where
  blk : Blk w B #[sv, .map (some bm), .int .i64 N] 65
  own : w.ownsRow base 31 3 sv L.length (cellsL encI L)
  map : MapAt OkN w bm (plcs L)
  hB : base ≤ B
  hm : base ≤ bm
theorem PAt.nos {w : World} {base B bm : Nat} {sv : Value} {L : List It} {N : Int} (h : PAt w base B bm sv L N) : Nos L := (nos_iff L).1 h.map.nodup
def PAt.bs (B bm : Nat) (sv : Value) : List Nat := B :: bm :: sv.ownBlock.toList
theorem PAt.turn {w w' : World} {base B bm : Nat} {sv : Value} {L : List It} {N : Int} {bs : List Nat} (h : PAt w base B bm sv L N) (ht : Turn bs w w') (h1 : B ∉ bs) (h2 : bm ∉ bs) (h3 : ∀ g, sv.ownBlock = some g → g ∉ bs) : PAt w' base B bm sv L N :=
  ⟨ht.blk h.blk h1, ht.own h.own h3, h.map.block (ht.block bm h.map.lt h2), h.hB, h.hm⟩
theorem PAt.after {w w' : World} {base B bm : Nat} {sv : Value} {L : List It} {N : Int} (h : PAt w base B bm sv L N) (hb : Below w.heap.size w w') : PAt w' base B bm sv L N :=
  h.turn (bs := []) (Turn.of_below hb) (by simp) (by simp) (by simp)
theorem PAt.ne {w : World} {base B bm : Nat} {sv : Value} {L : List It} {N : Int} (h : PAt w base B bm sv L N) : B ≠ bm ∧ ∀ g, sv.ownBlock = some g → g ≠ B ∧ g ≠ bm := by
  have hB : w.heap[B]? = _ := h.blk
  obtain ⟨es, c, hm, _⟩ := h.map
  refine ⟨fun e => (by rw [e, hm] at hB; cases hB), fun g hg => ?_⟩
  obtain ⟨_, _, cur, hc⟩ := own_cells h.own hg
  refine ⟨fun e => ?_, fun e => (by rw [e, hm] at hc; cases hc)⟩
  rw [e, hB] at hc
  simp at hc

/-- A row's item, put in its place. -/
def put3 (W : World) (g i : Nat) (x : It) : World := ((W.setCell ⟨g, i * 3, none⟩ (.int .i64 x.d)).setCell ⟨g, i * 3 + 1, none⟩ (.int .i64 x.n)).setCell ⟨g, i * 3 + 2, none⟩ (.int .i64 x.t)
theorem own_set1 {w : World} {base size n g cap : Nat} {e : TypeId} {xs : List Value} (h : w.ownsRow base e size (.slice (some ⟨g, 0, none⟩) n cap) n xs) (j : Nat) (hj : j < n * size) (u : Value) :
    (w.setCell ⟨g, j, none⟩ u).ownsRow base e size (.slice (some ⟨g, 0, none⟩) n cap) n (xs.set j u) := by
  refine ⟨by rw [List.length_set]; exact h.1, ?_⟩
  rcases h.2 with ⟨e0, _⟩ | ⟨g', cap', cur, e1, hb, hg, hnc, hm, hsz, ht⟩
  · cases e0
  · cases e1
    refine Or.inr ⟨g, cap, cur.setIfInBounds j u, rfl, hb, Blk.set hg j u, hnc, hm, by simpa using hsz, ?_⟩
    rw [Array.toList_setIfInBounds, List.take_set, ht]
theorem cellsL_set : ∀ (L : List It) (i : Nat) (x : It), i < L.length → cellsL encI (L.set i x) = (((cellsL encI L).set (i * 3) (.int .i64 x.d)).set (i * 3 + 1) (.int .i64 x.n)).set (i * 3 + 2) (.int .i64 x.t)
  | [], i, x, h => by simp at h
  | a :: L, 0, x, h => by simp [cellsL, encI]
  | a :: L, i + 1, x, h => by
    have ih := cellsL_set L i x (by simpa using h)
    have e : (i + 1) * 3 = i * 3 + 1 + 1 + 1 := by omega
    rw [List.set_cons_succ, cellsL, ih, cellsL, e]
    simp [encI]
theorem own_put {w : World} {base g cap : Nat} {e : TypeId} {L : List It} (h : w.ownsRow base e 3 (.slice (some ⟨g, 0, none⟩) L.length cap) L.length (cellsL encI L)) {i : Nat} (hi : i < L.length) (x : It) :
    (put3 w g i x).ownsRow base e 3 (.slice (some ⟨g, 0, none⟩) L.length cap) L.length (cellsL encI (L.set i x)) := by
  rw [cellsL_set L i x hi]
  exact own_set1 (own_set1 (own_set1 h _ (by omega) _) _ (by omega) _) _ (by omega) _
theorem row_parts {w : World} {base n : Nat} {e : TypeId} {v : Value} {L : List It} (h : w.ownsRow base e 3 v n (cellsL encI L)) (hn : n = L.length) (h0 : 0 < L.length) : ∃ g cap, v = .slice (some ⟨g, 0, none⟩) n cap ∧ base ≤ g ∧ g < w.heap.size ∧ n ≤ cap ∧ cap ≤ maxLen ∧
    ∀ (i : Nat) (x : It), L[i]? = some x → (w.cell? ⟨g, i * 3, none⟩ = some (.int .i64 x.d) ∧ w.cell? ⟨g, i * 3 + 1, none⟩ = some (.int .i64 x.n) ∧ w.cell? ⟨g, i * 3 + 2, none⟩ = some (.int .i64 x.t)) ∧ w.frozen? ⟨g, i * 3, none⟩ = false ∧ w.frozen? ⟨g, i * 3 + 1, none⟩ = false ∧ w.frozen? ⟨g, i * 3 + 2, none⟩ = false := by
  subst hn
  obtain ⟨a, cap0, hv0, _, _, _, _, hR⟩ := owned_recs (enc := encI) (size := 3) (fun _ => rfl) h rfl
  rcases h.2 with ⟨_, e0⟩ | ⟨g, cap, cur, rfl, hb, hg, hnc, hm, hsz, ht⟩
  · omega
  · simp only [Value.slice.injEq, true_and] at hv0
    obtain ⟨rfl, rfl⟩ := hv0
    have hB : Blk w g cur e := hg
    refine ⟨g, cap, rfl, hb, hB.lt, hnc, hm, fun i x hx => ?_⟩
    have hi := (List.getElem?_eq_some_iff.1 hx).1
    have q0 := RecsAt.cell hR rfl hi hx (j := 0) (v := .int .i64 x.d) rfl
    have q1 := RecsAt.cell hR rfl hi hx (j := 1) (v := .int .i64 x.n) rfl
    have q2 := RecsAt.cell hR rfl hi hx (j := 2) (v := .int .i64 x.t) rfl
    rw [Nat.zero_add] at q0 q1 q2
    exact ⟨⟨q0, q1, q2⟩, hB.free _, hB.free _, hB.free _⟩

theorem below_growQ {w : World} (q : Nat) (os : Array Obj) : Below w.heap.size w (Sort.grow (w.drewN q) os) := ⟨rfl, rfl, rfl, by simp, fun k hk => by
  unfold Sort.grow
  dsimp only
  exact Array.getElem?_append_left hk⟩
theorem plen_ok (base B bm : Nat) (sv : Value) (L : List It) (N : Int) (w : World) (h : PAt w base B bm sv L N) : Calls Try.prog 27 #[.pointer (some ⟨B, 0, none⟩)] w fun e w' => e = .returned (.int .i64 L.length) ∧ w' = w := by
  obtain ⟨a, cap, rfl, _⟩ := owned_recs (enc := encI) (size := 3) (fun _ => rfl) h.own rfl
  have c0 : w.cell? ⟨B, 0, none⟩ = some (.slice a L.length cap) := h.blk.cell 0 rfl
  clear h
  go_enter Try.func27, Try.ntmps27
  go_wp2_with fail
  go_ret
  exact ⟨rfl, rfl⟩
set_option maxHeartbeats 1000000 in
theorem less_ok (base B bm : Nat) (sv : Value) (L : List It) (N : Int) (i k : Nat) (x y : It) (hi : L[i]? = some x) (hk : L[k]? = some y) (w : World) (h : PAt w base B bm sv L N) :
    Calls Try.prog 82 #[.pointer (some ⟨B, 0, none⟩), .int .i64 i, .int .i64 k] w fun e w' => e = .returned (.bool (decide (ltK x.ky y.ky))) ∧ Below w.heap.size w w' := by
  have li := (List.getElem?_eq_some_iff.1 hi).1
  have lk := (List.getElem?_eq_some_iff.1 hk).1
  obtain ⟨g, cap, rfl, _, _, _, _, hc⟩ := row_parts h.own rfl (by omega)
  have HC : Hid (∀ W, W = w.drew → W.cell? ⟨B, 0, none⟩ = some (.slice (some ⟨g, 0, none⟩) L.length cap) ∧ (W.cell? ⟨g, i * 3, none⟩ = some (.int .i64 x.d) ∧ W.cell? ⟨g, i * 3 + 1, none⟩ = some (.int .i64 x.n) ∧ W.cell? ⟨g, i * 3 + 2, none⟩ = some (.int .i64 x.t)) ∧ W.cell? ⟨g, k * 3, none⟩ = some (.int .i64 y.d) ∧ W.cell? ⟨g, k * 3 + 1, none⟩ = some (.int .i64 y.n) ∧ W.cell? ⟨g, k * 3 + 2, none⟩ = some (.int .i64 y.t)) := fun W e => by
    subst e
    exact ⟨h.blk.cell 0 rfl, (hc i x hi).1, (hc k y hk).1⟩
  have HCB : Hid (∀ W, Below w.heap.size w W → W.cell? ⟨B, 0, none⟩ = some (.slice (some ⟨g, 0, none⟩) L.length cap) ∧ (W.cell? ⟨g, i * 3, none⟩ = some (.int .i64 x.d) ∧ W.cell? ⟨g, i * 3 + 1, none⟩ = some (.int .i64 x.n) ∧ W.cell? ⟨g, i * 3 + 2, none⟩ = some (.int .i64 x.t)) ∧ W.cell? ⟨g, k * 3, none⟩ = some (.int .i64 y.d) ∧ W.cell? ⟨g, k * 3 + 1, none⟩ = some (.int .i64 y.n) ∧ W.cell? ⟨g, k * 3 + 2, none⟩ = some (.int .i64 y.t)) := fun W hb =>
    ⟨below_cell hb (h.blk.cell 0 rfl), ⟨below_cell hb (hc i x hi).1.1, below_cell hb (hc i x hi).1.2.1, below_cell hb (hc i x hi).1.2.2⟩, below_cell hb (hc k y hk).1.1, below_cell hb (hc k y hk).1.2.1, below_cell hb (hc k y hk).1.2.2⟩
  have i1 : (0 : Int) ≤ (i : Int) := by omega
  have i2 : (i : Int) < (L.length : Int) := by omega
  have k1 : (0 : Int) ≤ (k : Int) := by omega
  have k2 : (k : Int) < (L.length : Int) := by omega
  have HV := Lib.hid (cmpKD_lt x.ky y.ky)
  obtain ⟨xd, xn, xt⟩ := x
  obtain ⟨yd, yn, yt⟩ := y
  have HP : Hid (∀ W, Calls Try.prog 34 #[.agg #[.int .i64 xd, .int .i64 xn, .int .i64 xt], .agg #[.int .i64 yd, .int .i64 yn, .int .i64 yt]] W fun e w' => e = .returned (.int .i64 (cmpKD (xd, xn) (yd, yn))) ∧ Below W.heap.size W w') := fun W => (compare_ok ⟨xd, xn, xt⟩ ⟨yd, yn, yt⟩ W).mono (by rintro e w' ⟨h1, q, os', rfl⟩; exact ⟨h1, below_growQ q os'⟩)
  obtain ⟨V, hV⟩ : ∃ V, cmpKD (xd, xn) (yd, yn) = V := ⟨_, rfl⟩
  rw [hV] at HP
  have HV2 : Hid (decide (V < 0) = decide (ltK (xd, xn) (yd, yn))) := by show _ = _; rw [← hV]; exact HV.out
  have bd : Below w.heap.size w w.drew := (Below.refl _ _).drew
  clear h hc hi hk hV
  dsimp only at HC HCB
  show Calls _ _ _ _ fun e w' => e = .returned (.bool (decide (ltK (xd, xn) (yd, yn)))) ∧ _
  rw [← HV2.out]
  go_enter Try.func82, Try.ntmps82
  go_wp2_with fail
  go_region_held3 (fun W => W.cell? ⟨B, 0, none⟩ = some (.slice (some ⟨g, 0, none⟩) L.length cap) ∧ (W.cell? ⟨g, i * 3, none⟩ = some (.int .i64 xd) ∧ W.cell? ⟨g, i * 3 + 1, none⟩ = some (.int .i64 xn) ∧ W.cell? ⟨g, i * 3 + 2, none⟩ = some (.int .i64 xt)) ∧ W.cell? ⟨g, k * 3, none⟩ = some (.int .i64 yd) ∧ W.cell? ⟨g, k * 3 + 1, none⟩ = some (.int .i64 yn) ∧ W.cell? ⟨g, k * 3 + 2, none⟩ = some (.int .i64 yt))
    (first | with_reducible exact HCB.out _ bd | with_reducible exact HCB.out _ bf)
    ((go_at_call 34; (with_reducible refine (HP.out _).mono ?_); rintro e wf ⟨rfl, hbf⟩; have bf := bd.trans (hbf.mono bd.size)))
  go_wp2_with fail
  go_ret
  exact ⟨rfl, bf⟩

end Go.Proofs.Ytgcncnmkfpfccaa
