/- slices.symMergeCmpFunc of cuts, the long way: what it does, plainly. -/
import Derived.Test.YtncodoaphfeefaaAmtQ
namespace Go.Proofs.Ytncodoaphfeefaa
open Go.RowKit Go.Shelf Go.Lib Go.Sort
set_option linter.unusedVariables false
set_option linter.unusedSimpArgs false

theorem three (a b c : Nat) : (a < b ∧ b < c) ∨ ¬ a < b ∨ (a < b ∧ ¬ b < c) := by omega
theorem rot_id {d : Array Cut} {s m e : Nat} (h : s = m ∨ m = e) (h1 : s ≤ m) (h2 : m ≤ e) : RotOf d d s m e := by
  refine ⟨permIn_refl d s e, fun x => ?_⟩
  have : rotI s m e x = x := by unfold rotI; (repeat' split) <;> omega
  rw [this]
theorem mrg_id {a s mid : Nat} {d : Array Cut} (h : Two a s mid d) (hc : ¬ a < s ∨ ¬ s < mid) (h1 : a ≤ s) (h2 : s ≤ mid) : Mrg a mid d d := by
  refine ⟨permIn_refl d a mid, ?_⟩
  rcases hc with c | c
  · obtain rfl : a = s := by omega
    exact h.r
  · obtain rfl : s = mid := by omega
    exact h.l
theorem fin_done {a m b mid s : Nat} {d d1 d2 d3 : Array Cut} (hb : b ≤ d.size) (ha : a ≤ mid) (hm : mid ≤ b) (h2 : Two a m b d) (hc : Cutp a m b mid s d) (hr : RotOf d d1 s m (mid + m - s)) (h1 : Mrg a mid d1 d2) (h3 : Mrg mid b d2 d3) : Mrg a b d d3 := by
  have hz : d1.size = d.size := hr.perm.1
  obtain ⟨g1, g2, g3⟩ := (halves ha hm h2 hc hr).one_done (by omega) ha hm hc.h2 h1
  have hM := merge_done (by rw [h1.perm.1]; omega) ha hm g2 g3 h3
  have p1 : PermIn a b d d1 := permIn_mono _ _ _ _ _ _ hc.h1 hc.h4 hb hr.perm
  have p2 : PermIn a b d1 d2 := permIn_mono _ _ _ _ _ _ (Nat.le_refl _) hm (by omega) h1.perm
  exact ⟨permIn_trans _ _ _ _ _ p1 (permIn_trans _ _ _ _ _ p2 hM.perm), hM.srt⟩
/-- What the long way begins with. -/
structure LongI (a m b mid n s0 r0 z : Nat) : Prop where
  ham : a + 1 < m
  hmb : m + 1 < b
  hb : b ≤ z
  hmid : (a + b) / 2 = mid
  hn : mid + m = n
  hc : (mid < m ∧ s0 = n - b ∧ r0 = mid) ∨ (m ≤ mid ∧ s0 = a ∧ r0 = m)
  hz : z ≤ 1000
theorem LongI.le {a m b mid n s0 r0 z : Nat} (h : LongI a m b mid n s0 r0 z) : s0 ≤ r0 := by
  obtain ⟨h1, h2, h3, h4, h5, h6, h7⟩ := h
  omega
theorem LongI.r0d {a m b mid n s0 r0 z : Nat} (h : LongI a m b mid n s0 r0 z) : r0 ≤ 1000 := by
  obtain ⟨h1, h2, h3, h4, h5, h6, h7⟩ := h
  omega
theorem LongI.at {a m b mid n s0 r0 z : Nat} (h : LongI a m b mid n s0 r0 z) (c : Nat) (k1 : s0 ≤ c) (k2 : c < r0) : n - 1 - c < z ∧ IntKind.i64.wrap (((n - 1 : Nat) : Int) - (c : Int)) = ((n - 1 - c : Nat) : Int) := by
  obtain ⟨h1, h2, h3, h4, h5, h6, h7⟩ := h
  refine ⟨by omega, ?_⟩
  rw [IntKind.wrap_i64]
  omega
theorem LongI.done {a m b mid n s0 r0 z : Nat} (h : LongI a m b mid n s0 r0 z) {d : Array Cut} (hb : b ≤ d.size) (h2 : Two a m b d) (s : Nat) (k1 : s0 ≤ s) (k2 : s ≤ r0) (hlo : s0 < s → (d[n - s]!).2 ≤ (d[s - 1]!).2) (hhi : s < r0 → (d[s]!).2 < (d[n - 1 - s]!).2) : Cutp a m b mid s d ∧ IntKind.i64.wrap ((n : Int) - (s : Int)) = ((mid + m - s : Nat) : Int) ∧ a ≤ s ∧ s ≤ m := by
  obtain ⟨h1, h3, h4, h5, h6, h7, h8⟩ := h
  subst h6
  refine ⟨⟨by omega, by omega, by omega, by omega, by omega, fun q1 q2 => ?_, fun q1 q2 => .inl ?_⟩, ?_, by omega, by omega⟩
  · have e1 := hlo (by omega)
    have e2 := h2.lr (s - 1) (mid + m - s) (by omega) (by omega) (by omega) q2
    unfold lxC
    omega
  · have e1 := hhi (by omega)
    rwa [show mid + m - s - 1 = mid + m - 1 - s by omega]
  · rw [IntKind.wrap_i64]
    omega
theorem w3 (n : Nat) (h : n ≤ 3000) : IntKind.i64.wrap (n : Int) = (n : Int) := by
  rw [IntKind.wrap_i64]
  omega
theorem w3_sub (x y : Nat) (h : y ≤ x) (k : x ≤ 3000) : IntKind.i64.wrap ((x : Int) - (y : Int)) = ((x - y : Nat) : Int) := by
  rw [show (x : Int) - (y : Int) = ((x - y : Nat) : Int) by omega]
  exact w3 _ (by omega)
theorem w3_add (x y : Nat) (k : x + y ≤ 3000) : IntKind.i64.wrap ((x : Int) + (y : Int)) = ((x + y : Nat) : Int) := by
  rw [show (x : Int) + (y : Int) = ((x + y : Nat) : Int) by omega]
  exact w3 _ k
theorem n_ne1 (u : Nat) (h : 1 < u) : ((u : Int) == 1) = false := by rw [beq_eq_false_iff_ne]; omega
/-- The numbers that the walk meets ahead of its loop. -/
structure LongN (a m b mid n u v ab p : Nat) : Prop where
  t0 : IntKind.i64.wrap ((m : Int) - (a : Int)) = (u : Int)
  hu1 : ((u : Int) == 1) = false
  t1 : IntKind.i64.wrap ((b : Int) - (m : Int)) = (v : Int)
  hv1 : ((v : Int) == 1) = false
  t2 : IntKind.i64.wrap ((a : Int) + (b : Int)) = (ab : Int)
  t4 : IntKind.u64.wrap (ab : Int) = (ab : Int)
  t5 : RowKit.wrap64 ((ab : Int) / 2) = (mid : Int)
  t6 : (ab : Int) / 2 = (mid : Int)
  t7 : IntKind.i64.wrap ((mid : Int) + (m : Int)) = (n : Int)
  t8 : IntKind.i64.wrap ((n : Int) - 1) = (p : Int)
  amid : a < mid
  midb : mid < b
  mb : m < b
  b1 : b ≤ 1000
  hp : n - 1 = p
  t9 : IntKind.i64.wrap (mid : Int) = (mid : Int)
  t10 : RowKit.wrap64 (mid : Int) = (mid : Int)
  t11 : p ≤ 2000
theorem LongI.nums {a m b mid n s0 r0 z : Nat} (h : LongI a m b mid n s0 r0 z) : LongN a m b mid n (m - a) (b - m) (a + b) (n - 1) := by
  obtain ⟨h1, h2, h3, h4, h5, h6, h7⟩ := h
  have hb : b ≤ 1000 := Nat.le_trans h3 h7
  have hmb : m ≤ 1000 := by omega
  have hml : mid ≤ 1000 := by omega
  have hab : a + b ≤ 2000 := by omega
  refine ⟨w3_sub _ _ (by omega) (by omega), n_ne1 _ (by omega), w3_sub _ _ (by omega) (by omega), n_ne1 _ (by omega), w3_add _ _ (by omega), u64_id _ hab, half_id _ _ hab h4, half_eq _ _ h4, ?_, ?_, by omega, by omega, by omega, hb, rfl, w3 _ (by omega), w64 _ hml, by omega⟩
  · rw [← h5]; exact w3_add _ _ (by omega)
  · exact w3_sub n 1 (by omega) (by omega)

end Go.Proofs.Ytncodoaphfeefaa
