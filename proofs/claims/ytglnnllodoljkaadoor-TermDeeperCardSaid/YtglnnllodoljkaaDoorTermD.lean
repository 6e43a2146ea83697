/- Package term: the iterator kids: its contract. -/
import Derived.Test.YtglnnllodoljkaaDoorTermC
namespace Go.Proofs.YtglnnllodoljkaaDoor
open Go.RowKit Go.Shelf
set_option linter.unusedVariables false
set_option linter.unusedSimpArgs false
attribute [local go_sem] Oper.semAt_some

theorem skip_part {l : List Int} {n m k : Nat} (h : skip n l = some m) (hk : k ≤ n) : ∃ m', skip k l = some m' ∧ m' ≤ m := by
  obtain ⟨d, rfl⟩ : ∃ d, n = k + d := ⟨n - k, by omega⟩
  rw [skip_add] at h
  cases e : skip k l with
  | none => rw [e] at h; cases h
  | some m' =>
    rw [e, Option.bind_some] at h
    cases e2 : skip d (l.drop m') with
    | none => rw [e2] at h; cases h
    | some x => rw [e2] at h; cases h; exact ⟨m', rfl, Nat.le_add_right _ _⟩

/-- The place of the k-th term below a node. -/
def place (ns : List Nd) (i k : Nat) : Nat := i + 1 + (skip k ((opsOf ns).drop (i + 1))).getD 0
theorem place_zero (ns : List Nd) (i : Nat) : place ns i 0 = i + 1 := by
  unfold place
  rw [skip_zero]
  rfl
theorem place_at {ns : List Nd} {i k m : Nat} (h : skip k ((opsOf ns).drop (i + 1)) = some m) : place ns i k = i + 1 + m := by
  unfold place
  rw [h]
  rfl
theorem place_le {ns : List Nd} {i k M r : Nat} (h : skip M ((opsOf ns).drop (i + 1)) = some r) (hi : i < ns.length) (hk : k ≤ M) : place ns i k ≤ ns.length ∧ i + 1 ≤ place ns i k := by
  obtain ⟨m, h1, h2⟩ := skip_part h hk
  have := (skip_le _ _ _ h1).2
  rw [List.length_drop, opsOf_len] at this
  rw [place_at h1]
  omega
theorem place_next {ns : List Nd} {i k M r : Nat} (h : skip M ((opsOf ns).drop (i + 1)) = some r) (hk : k < M) : ∃ q, skip 1 ((opsOf ns).drop (place ns i k)) = some q ∧ place ns i (k + 1) = place ns i k + q := by
  obtain ⟨m, h1, _⟩ := skip_part h (Nat.le_of_lt hk)
  obtain ⟨m', h2, _⟩ := skip_part h hk
  have h3 := skip_next h1
  rw [show k.succ = k + 1 from rfl, h3] at h2
  rw [place_at h1]
  cases e : skip 1 ((opsOf ns).drop (i + 1 + m)) with
  | none => rw [e] at h2; cases h2
  | some q =>
    rw [e, Option.map_some] at h3
    exact ⟨q, rfl, by rw [place_at h3]; omega⟩

/-- What the iterator gives: the numbers and the places of the first m terms below. -/
def kidsL (ns : List Nd) (i m : Nat) : List (Int × Int) := (List.range m).map fun k : Nat => ((k : Int), (place ns i k : Int))
theorem kidsL_succ (ns : List Nd) (i m : Nat) : kidsL ns i (m + 1) = kidsL ns i m ++ [((m : Int), (place ns i m : Int))] := by
  simp [kidsL, List.range_succ]
theorem kidsL_len (ns : List Nd) (i m : Nat) : (kidsL ns i m).length = m := by simp [kidsL]
theorem kidsL_pre (ns : List Nd) (i m k : Nat) (h : m ≤ k) : kidsL ns i m <+: kidsL ns i k := by
  induction k with
  | zero => obtain rfl : m = 0 := by omega
            exact List.prefix_refl _
  | succ k ih =>
    by_cases e : m = k + 1
    · subst e; exact List.prefix_refl _
    · exact (ih (by omega)).trans ⟨_, (kidsL_succ ns i k).symm⟩
abbrev encK (x : Int × Int) : Array Value := #[.int .i64 x.1, .int .i64 x.2]

theorem cell_new_l (W : World) (v : Value) (t : TypeId) : (W.alloc (.cells #[v] t)).cell? ⟨W.heap.size, 0, none⟩ = some v ∧ (W.alloc (.cells #[v] t)).frozen? ⟨W.heap.size, 0, none⟩ = false :=
  ⟨by rw [World.cell?_alloc_new]; rfl, World.frozen?_alloc_new _ _ _ _⟩
theorem cell_alloc_l {W : World} {a : Addr} {v : Value} (o : Obj) (h : W.cell? a = some v) : (W.alloc o).cell? a = some v := cell_kept h (World.grownBy_alloc W o none) (fun r e => by cases e)
theorem below_grown {w w' : World} (h : Below w.heap.size w w') : w.grownBy w' none := ⟨h.os, h.tape, h.output, h.size, fun k hk _ => h.block k hk⟩

set_option maxRecDepth 100000 in
theorem kids_ok (a : Option Addr) (l cap : Nat) (i : Int) (w : World) :
    Calls Tryd.prog 34 #[.slice a l cap, .int .i64 i] w fun e w' => e = .returned (.func (.func 44) #[] #[.pointer (some ⟨w.heap.size + 1, 0, none⟩), .pointer (some ⟨w.heap.size, 0, none⟩)]) ∧
      w' = (w.alloc (.cells #[.slice a l cap] 22)).alloc (.cells #[.int .i64 i] 3) := by
  go_enter Tryd.func34, Tryd.ntmps34
  go_wp2
  go_ret
  exact ⟨rfl, rfl⟩

/-- What the iterator reads. -/
structure KidsAt (W : World) (n₀ Bi Bt i : Nat) (a : Option Addr) (cap : Nat) (ns : List Nd) : Prop where
  hS : ShapesAt W
  hN : NdsAt W a ns
  hi : W.cell? ⟨Bi, 0, none⟩ = some (.int .i64 i)
  ht : W.cell? ⟨Bt, 0, none⟩ = some (.slice a ns.length cap)
theorem KidsAt.below {W W' : World} {B n₀ Bi Bt i : Nat} {a : Option Addr} {cap : Nat} {ns : List Nd} (h : KidsAt W n₀ Bi Bt i a cap ns) (hb : Below B W W') (h0 : 0 < B) (ha : ∀ x, a = some x → x.block < B) (h1 : Bi < B) (h2 : Bt < B) : KidsAt W' n₀ Bi Bt i a cap ns :=
  ⟨fun k hk j hj => (hb.cell (p := ⟨0, k * 6 + j, none⟩) h0).trans (h.hS k hk j hj), RowsAt.below h.hN hb ha, (hb.cell (p := ⟨Bi, 0, none⟩) h1).trans h.hi, (hb.cell (p := ⟨Bt, 0, none⟩) h2).trans h.ht⟩

/-- What a round keeps that writes one box alone: all else below n₀. -/
structure But (n₀ X : Nat) (W W' : World) : Prop where
  size : W.heap.size ≤ W'.heap.size
  block : ∀ k, k < n₀ → k ≠ X → W'.heap[k]? = W.heap[k]?
theorem But.trans {n₀ X : Nat} {A B C : World} (h : But n₀ X A B) (k : But n₀ X B C) : But n₀ X A C := ⟨Nat.le_trans h.size k.size, fun j h1 h2 => (k.block j h1 h2).trans (h.block j h1 h2)⟩
theorem But.putObj {n₀ X : Nat} {w : World} (hn : n₀ ≤ w.heap.size) (W : World) (l : Nat) (o o' : Obj) (hl : w.heap.size ≤ l) (h : W.heap[l]? = some o) (h1 : o.isCells = false) (h2 : o.isWalk = false) : But n₀ X W (W.putObj l o') :=
  have hb := belowK_b hn W l o o' hl h h1 h2
  ⟨hb.size, fun k hk _ => hb.block k hk⟩
theorem KidsAt.but {W W' : World} {B X n₀ Bi Bt i : Nat} {a : Option Addr} {cap : Nat} {ns : List Nd} (h : KidsAt W n₀ Bi Bt i a cap ns) (hb : But B X W W') (h0 : 0 < B) (ha : ∀ x, a = some x → x.block < B) (h1 : Bi < B) (h2 : Bt < B)
    (x0 : 0 ≠ X) (xa : ∀ x, a = some x → x.block ≠ X) (x1 : Bi ≠ X) (x2 : Bt ≠ X) : KidsAt W' n₀ Bi Bt i a cap ns :=
  ⟨fun k hk j hj => (World.cell?_of_block (a := ⟨0, k * 6 + j, none⟩) (hb.block 0 h0 x0)).trans (h.hS k hk j hj),
   fun hl => by
    obtain ⟨b, o, e, hc⟩ := h.hN hl
    exact ⟨b, o, e, fun i hi j v hv => (World.cell?_of_block (a := ⟨b, o + i * 5 + j, none⟩) (hb.block b (ha _ e) (xa _ e))).trans (hc i hi j v hv)⟩,
   (World.cell?_of_block (a := ⟨Bi, 0, none⟩) (hb.block Bi h1 x1)).trans h.hi, (World.cell?_of_block (a := ⟨Bt, 0, none⟩) (hb.block Bt h2 x2)).trans h.ht⟩

set_option maxRecDepth 100000 in
set_option maxHeartbeats 2000000 in
theorem kids_stops (n : Nat) (hn : 1 ≤ n) (X n₀ Bi Bt i : Nat) (a : Option Addr) (cap : Nat) (ns : List Nd) (hl : ns.length ≤ 1000000) (q : Nat) (hq : skip 1 ((opsOf ns).drop i) = some q) (w0 : World) (hK0 : KidsAt w0 n₀ Bi Bt i a cap ns)
    (hn0 : n₀ ≤ w0.heap.size) (h0 : 0 < n₀) (ha : ∀ x, a = some x → x.block < n₀) (h1 : Bi < n₀) (h2 : Bt < n₀) (x0 : 0 ≠ X) (xa : ∀ x, a = some x → x.block ≠ X) (x1 : Bi ≠ X) (x2 : Bt ≠ X) :
    SeqStopsK Fence.wide n Tryd.prog 44 #[.pointer (some ⟨Bi, 0, none⟩), .pointer (some ⟨Bt, 0, none⟩)] encK (But n₀ X) (fun xs => xs = kidsL ns i (mny (Nd.at ns i).op)) (fun pre => pre <+: kidsL ns i (mny (Nd.at ns i).op)) (mny (Nd.at ns i).op) w0 := fun l J Jx W hW hJ hJx hY hJ0 => by
  have hi : i < ns.length := by
    rcases Nat.lt_or_ge i ns.length with h | h
    · exact h
    · rw [skip_over h] at hq; cases hq
  have hop0 : shp (Nd.at ns i).op 0 ≠ 0 := fun h => by rw [skip_none hi h] at hq; cases hq
  obtain ⟨r, hr⟩ : ∃ r, skip (mny (Nd.at ns i).op) ((opsOf ns).drop (i + 1)) = some r := by
    rw [skip_one hi hop0] at hq
    cases e : skip (mny (Nd.at ns i).op) ((opsOf ns).drop (i + 1)) with
    | none => rw [e] at hq; cases hq
    | some r => exact ⟨r, rfl⟩
  have hKW := hK0.below (hW.mono hn0) h0 ha h1 h2
  obtain ⟨b, o, rfl, hc⟩ := hKW.hN (by omega)
  have c0 : W.cell? ⟨b, o + i * 5, none⟩ = some (.int .i64 (Nd.at ns i).op) := hc i hi 0 _ rfl
  clear hc hq hop0
  obtain ⟨op, hop⟩ : ∃ op, (Nd.at ns i).op = op := ⟨_, rfl⟩
  rw [hop] at c0 hr hY ⊢
  clear hop
  obtain ⟨hm1, hm2⟩ := mny_int op
  have HF := Lib.hid (of_ok op W hKW.hS)
  unfold shapeV at HF
  rw [← hm1] at HF
  obtain ⟨M, hM⟩ : ∃ M, mny op = M := ⟨_, rfl⟩
  rw [hM] at HF hr hm2 hY ⊢
  clear hm1 hM
  have q1 := hKW.hi
  have q2 := hKW.ht
  have hi' : (i : Int) < (ns.length : Int) := by omega
  have HK := Lib.hid hKW
  have zW := hW.size
  have hbn : b < n₀ := ha _ rfl
  clear hKW hK0
  refine callsIn_of_wp Tryd.func44 rfl trivial ?_ rfl
  simp only [Tryd.ntmps44, List.size_toArray, List.length_cons, List.length_nil, Nat.reduceAdd, Nat.reduceSub, Array.replicate_succ, Array.replicate_zero, List.push_toArray, List.append_toArray, List.nil_append, List.cons_append]
  gi_wp2_with fail
  refine ⟨trivial, ?_⟩
  with_reducible refine (callsIn_wide.2 HF.out).mono ?_
  rintro e w1 ⟨rfl, hb1⟩
  have hf := fun w => shape_field1 (.int .i64 (shp op 0)) (.int .i64 M) (.int .i64 (shp op 2)) (.int .i64 (shp op 3)) (.int .i64 (shp op 4)) (.int .i64 (shp op 5)) w
  have hK1 := Lib.hid (HK.out.below hb1 (by omega) (fun x e => by have := ha x e; omega) (by omega) (by omega))
  have z1 := hb1.size
  have hJ1 : J [] w1 := hJ [] W w1 none hJ0 (below_grown hb1) (by rintro r ⟨⟩)
  gi_wp2_with fail
  gi_loopw [4, 15] (fun p c wr => ∃ k j : Nat, k ≤ M ∧ p = .int .i64 (j : Int) ∧ Hid (place ns i k = j) ∧ c = .int .i64 (k : Int) ∧ J (kidsL ns i k) wr ∧ Hid (KidsAt wr n₀ Bi Bt i (some ⟨b, o, none⟩) cap ns) ∧ n₀ ≤ wr.heap.size ∧ W.heap.size ≤ wr.heap.size) (fun _ c _ => M - (intOf c).toNat)
  case atStart => exact ⟨0, i + 1, by omega, by simp, place_zero ns i, rfl, hJ1, hK1, by omega, by omega⟩
  case round =>
    obtain ⟨k, j, hk, rfl, HP, rfl, hJk, hKk, zk, zk'⟩ := hrel
    clear hJ1 hK1 c0 q1 q2
    have q2 := hKk.out.ht
    by_cases hlt : k < M
    · have hlt' : (k : Int) < (M : Int) := by omega
      obtain ⟨fn, tmps, assign, body, hy, hR⟩ := hY _ ((k : Int), (j : Int)) wr hJk (by rw [kidsL_len]; exact hlt)
      dsimp only [encK] at hy
      gi_wp2_with fail
      refine hR.mono ?_
      rintro e w3 (⟨rfl, hJ3, hk3⟩ | ⟨rfl, hJx3⟩)
      · rw [← HP.out, ← kidsL_succ ns i k] at hJ3
        have hK3 := Lib.hid (hKk.out.but hk3 h0 ha h1 h2 x0 xa x1 x2)
        have q3 := hK3.out.ht
        have z3 := hk3.size
        obtain ⟨x, hx1, hx2⟩ := place_next hr hlt
        rw [HP.out] at hx1 hx2
        have hpl := (place_le hr hi (show k + 1 ≤ M by omega)).1
        have HE := Lib.hid (end_ok (some ⟨b, o, none⟩) cap ns hl (ns.length - j) j (Nat.le_refl _) (by omega) w3 hK3.out.hS hK3.out.hN)
        rw [endV_some hx1, ← hx2] at HE
        obtain ⟨j', hj'⟩ : ∃ j', place ns i (k + 1) = j' := ⟨_, rfl⟩
        rw [hj'] at HE
        have HP' := Lib.hid hj'
        clear hx1 hx2 hpl hj'
        gi_wp2_with fail
        refine ⟨trivial, ?_⟩
        with_reducible refine (callsIn_wide.2 HE.out).mono ?_
        rintro e w4 ⟨rfl, hb4⟩
        have hJ4 : J (kidsL ns i (k + 1)) w4 := hJ _ w3 w4 none hJ3 (below_grown hb4) (by rintro r ⟨⟩)
        have hK4 := Lib.hid (hK3.out.below hb4 (by omega) (fun x e => by have := ha x e; omega) (by omega) (by omega))
        have z4 := hb4.size
        gi_wp2_with fail
        go_roundw
        case rel => exact ⟨k + 1, j', by omega, rfl, HP', by go_num, hJ4, hK4, by omega, by omega⟩
        case measure => simp [intOf]; omega
      · rw [← HP.out, ← kidsL_succ ns i k] at hJx3
        gi_wp2_with fail
        refine bodyPost_ret (results_none rfl _ _ _) rfl ?_
        exact ⟨⟨_, rfl⟩, .inr ⟨_, kidsL_pre ns i (k + 1) M (by omega), hJx3⟩⟩
    · obtain rfl : k = M := by omega
      gi_wp2_with fail
      go_end0
      exact ⟨⟨_, rfl⟩, .inl ⟨_, rfl, hJk⟩⟩

end Go.Proofs.YtglnnllodoljkaaDoor
