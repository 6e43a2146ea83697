/- Package bitemp: slices.Backward's iterator; Latest. -/
import Derived.Test.YtkloijkfaooodaaBitD
import Derived.Shelf.Abstract
import Derived.Shelf.RegionOpen
namespace Go.Proofs.Ytkloijkfaooodaa
open Go.RowKit Go.Shelf
set_option linter.unusedVariables false
set_option linter.unusedSimpArgs false
attribute [local go_sem] Oper.semAt_some

theorem below_grownN {w w' : World} (h : RowKit.Below w.heap.size w w') : w.grownBy w' none := ⟨h.os, h.tape, h.output, h.size, fun k hk _ => h.block k hk⟩
theorem find_first {α : Type} {p : α → Bool} : ∀ {l : List α} {j : Nat} {y : α}, (∀ x ∈ l.take j, p x = false) → l[j]? = some y → p y = true → l.find? p = some y
  | [], j, y, _, h, _ => by simp at h
  | x :: l, 0, y, _, h, hp => by
    simp only [List.getElem?_cons_zero, Option.some.injEq] at h
    subst h
    rw [List.find?_cons, hp]
  | x :: l, j + 1, y, hn, h, hp => by
    rw [List.find?_cons, hn x (by simp)]
    exact find_first (fun z hz => hn z (by rw [List.take_succ_cons]; exact List.mem_cons_of_mem _ hz)) (by simpa using h) hp
theorem find_none {α : Type} {p : α → Bool} {l : List α} (h : ∀ x ∈ l, p x = false) : l.find? p = none := by
  rw [List.find?_eq_none]
  intro x hx
  rw [h x hx]
  simp

/-- A slice of records behind an iterator. -/
def SeqAt (w : World) (n₀ Bs size : Nat) (T : TypeId) {α : Type} [Inhabited α] (enc : α → List Value) (l : List α) : Prop :=
  ∃ a cap, Blk w Bs #[.slice a l.length cap] T ∧ RecsAt w a size enc l ∧ Bs < n₀ ∧ (∀ x, a = some x → x.block < n₀)
theorem SeqAt.below {w w' : World} {n₀ Bs size : Nat} {T : TypeId} {α : Type} [Inhabited α] {enc : α → List Value} {l : List α} (h : SeqAt w n₀ Bs size T enc l) (hb : RowKit.Below n₀ w w') : SeqAt w' n₀ Bs size T enc l := by
  obtain ⟨a, cap, h1, h2, h3, h4⟩ := h
  exact ⟨a, cap, h1.below hb h3, h2.below hb h4, h3, h4⟩
theorem SeqAt.mono {w : World} {n₀ n₁ Bs size : Nat} {T : TypeId} {α : Type} [Inhabited α] {enc : α → List Value} {l : List α} (h : SeqAt w n₀ Bs size T enc l) (hn : n₀ ≤ n₁) : SeqAt w n₁ Bs size T enc l := by
  obtain ⟨a, cap, h1, h2, h3, h4⟩ := h
  exact ⟨a, cap, h1, h2, by omega, fun x hx => by have := h4 x hx; omega⟩

/-- What has come when k rounds are over: the last one first. -/
def bkT (A : List Vs) (k : Nat) : List (Int × Vs) := (List.range k).map fun i => (((A.length - 1 - i : Nat) : Int), A.getD (A.length - 1 - i) default)
theorem bkT_succ (A : List Vs) (k : Nat) : bkT A (k + 1) = bkT A k ++ [(((A.length - 1 - k : Nat) : Int), A.getD (A.length - 1 - k) default)] := by simp [bkT, List.range_succ]
theorem bkT_len (A : List Vs) (k : Nat) : (bkT A k).length = k := by simp [bkT]
theorem bkT_snd (A : List Vs) : (bkT A A.length).map (·.2) = A.reverse := by
  unfold bkT
  rw [List.map_map]
  refine List.ext_getElem (by simp) fun i h1 h2 => ?_
  simp only [List.length_map, List.length_range] at h1
  simp [List.getD_eq_getElem?_getD]
  rw [List.getElem?_eq_getElem (by omega)]
  rfl
theorem bkT_pre (A : List Vs) (k n : Nat) (h : k ≤ n) : bkT A k <+: bkT A n := by
  induction n with
  | zero => obtain rfl : k = 0 := by omega
            exact List.prefix_refl _
  | succ n ih =>
    by_cases e : k = n + 1
    · subst e; exact List.prefix_refl _
    · exact (ih (by omega)).trans ⟨_, (bkT_succ A n).symm⟩
abbrev encB (x : Int × Vs) : Array Value := #[.int .i64 x.1, .agg (encS x.2).toArray]

set_option maxRecDepth 100000 in
set_option maxHeartbeats 2000000 in
theorem back_stops (n : Nat) (hn : 1 ≤ n) (n₀ Bs : Nat) (A : List Vs) (hl : A.length ≤ 2513169434910) (w0 : World) (h0 : SeqAt w0 n₀ Bs 7 35 encS A) (hn0 : n₀ ≤ w0.heap.size) :
    SeqStopsK Fence.wide n Try.prog 57 #[.pointer (some ⟨Bs, 0, none⟩)] encB (RowKit.Below n₀) (fun xs => xs = bkT A A.length) (fun pre => pre <+: bkT A A.length) A.length w0 := fun l J Jx W hW hJ hJx hY hJ0 => by
  obtain ⟨a, cap, hB, hR, hBs, hA⟩ := h0.below (hW.mono hn0)
  have HBS := Lib.hid hB
  have q1 : W.cell? ⟨Bs, 0, none⟩ = some (.slice a A.length cap) := hB.cell 0 rfl
  have HR := Lib.hid hR
  have HA := Lib.hid hA
  have zW := hW.size
  clear hB hR hA h0
  refine callsIn_of_wp Try.func57 rfl trivial ?_ rfl
  simp only [Try.ntmps57, List.size_toArray, List.length_cons, List.length_nil, Nat.reduceAdd, Nat.reduceSub, Array.replicate_succ, Array.replicate_zero, List.push_toArray, List.append_toArray, List.nil_append, List.cons_append]
  gi_wp2_with fail
  gi_loopw [3] (fun c wr => ∃ k : Nat, k ≤ A.length ∧ c = .int .i64 (((A.length - k : Nat) : Int) - 1) ∧ J (bkT A k) wr ∧ RowKit.Below n₀ W wr) (fun c _ => ((intOf c) + 1).toNat)
  case atStart => exact ⟨0, by omega, by simp, hJ0, RowKit.Below.refl _ _⟩
  case round =>
    obtain ⟨k, hk, rfl, hJk, hbk⟩ := hrel
    have zk := hbk.size
    clear q1
    have q1 : wr.cell? ⟨Bs, 0, none⟩ = some (.slice a A.length cap) := (HBS.out.below hbk hBs).cell 0 rfl
    by_cases hlt : k < A.length
    · obtain ⟨j, hj⟩ : ∃ j, A.length - 1 - k = j := ⟨_, rfl⟩
      have hjl : j < A.length := by omega
      have e1 : ((A.length - k : Nat) : Int) - 1 = (j : Int) := by omega
      rw [e1]
      have hx := List.getElem?_eq_getElem hjl
      have HT : Hid (bkT A (k + 1) = bkT A k ++ [((j : Int), A[j])]) := by
        show _ = _
        rw [bkT_succ, hj, List.getD_eq_getElem?_getD, hx]
        rfl
      obtain ⟨z, hz⟩ : ∃ z, A[j] = z := ⟨_, rfl⟩
      rw [hz] at hx HT
      have hR := HR.out.below hbk HA.out
      obtain ⟨b, o, rfl, _⟩ := hR (by omega)
      have hRR : RecsAt wr (some ⟨b, o, none⟩) 7 encS A := hR
      obtain ⟨fn, tmps, assign, body, hy, hR3⟩ := hY _ ((j : Int), z) _ hJk (by rw [bkT_len]; omega)
      obtain ⟨xs, xc, xk, xd, xn, xm, xp⟩ := z
      dsimp only [encB, encS] at hy hR3
      have c0 : wr.cell? ⟨b, o + j * 7, none⟩ = some (.int .i64 xs) := RecsAt.cell hRR rfl hjl hx (j := 0) rfl
      have c1 : wr.cell? ⟨b, o + j * 7 + 1, none⟩ = some (.bool xc) := RecsAt.cell hRR rfl hjl hx (j := 1) rfl
      have c2 : wr.cell? ⟨b, o + j * 7 + 2, none⟩ = some (.int .i64 xk) := RecsAt.cell hRR rfl hjl hx (j := 2) rfl
      have c3 : wr.cell? ⟨b, o + j * 7 + 3, none⟩ = some (.int .i64 xd) := RecsAt.cell hRR rfl hjl hx (j := 3) rfl
      have c4 : wr.cell? ⟨b, o + j * 7 + 4, none⟩ = some (.int .i64 xn) := RecsAt.cell hRR rfl hjl hx (j := 4) rfl
      have c5 : wr.cell? ⟨b, o + j * 7 + 5, none⟩ = some (.int .i64 xm) := RecsAt.cell hRR rfl hjl hx (j := 5) rfl
      have c6 : wr.cell? ⟨b, o + j * 7 + 6, none⟩ = some (.int .i64 xp) := RecsAt.cell hRR rfl hjl hx (j := 6) rfl
      have j0 : (0 : Int) ≤ (j : Int) := by omega
      have HJ := Lib.hid hj
      clear hx hz hR hRR e1 hj
      gi_wp2_with fail
      refine hR3.mono ?_
      rintro e w3 (⟨rfl, hJ3, hk3⟩ | ⟨rfl, hJx3⟩)
      · rw [← HT.out] at hJ3
        have hB3 := hbk.trans hk3
        gi_wp2_with fail
        go_roundw
        case rel => exact ⟨k + 1, by omega, by have := HJ.out; congr 1; omega, hJ3, hB3⟩
        case measure => first | (simp [intOf]; done) | (simp [intOf]; omega)
      · rw [← HT.out] at hJx3
        gi_wp2_with fail
        refine bodyPost_ret (results_none rfl _ _ _) rfl ?_
        exact ⟨⟨_, rfl⟩, .inr ⟨_, bkT_pre A (k + 1) A.length (by omega), hJx3⟩⟩
    · obtain rfl : k = A.length := by omega
      have e1 : ((A.length - A.length : Nat) : Int) - 1 = -1 := by omega
      rw [e1]
      clear e1
      gi_wp2_with fail
      go_end0
      exact ⟨⟨_, rfl⟩, .inl ⟨_, rfl, hJk⟩⟩

end Go.Proofs.Ytkloijkfaooodaa
