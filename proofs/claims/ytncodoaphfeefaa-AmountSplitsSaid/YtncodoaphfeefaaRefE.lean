/- The reference's numbers as bits (package chattelref01): Parts. -/
import Derived.Test.YtncodoaphfeefaaRefB
import Derived.Test.YtncodoaphfeefaaGen
import Derived.Laws.MakeOwn
import Derived.Laws.OwnMore
namespace Go.Proofs.Ytncodoaphfeefaa
open Go.RowKit
set_option linter.unusedVariables false
set_option linter.unusedSimpArgs false

/-! ### Plain: one place of the schoolbook division -/
theorem part_step (N D k : Nat) (hD : 0 < D) :
    (2 * (N / 2 ^ (k + 1) % D) + N / 2 ^ k % 2 < D → N / 2 ^ k % D = 2 * (N / 2 ^ (k + 1) % D) + N / 2 ^ k % 2 ∧ N / D / 2 ^ k % 2 = 0) ∧
    (D ≤ 2 * (N / 2 ^ (k + 1) % D) + N / 2 ^ k % 2 → N / 2 ^ k % D = 2 * (N / 2 ^ (k + 1) % D) + N / 2 ^ k % 2 - D ∧ N / D / 2 ^ k % 2 = 1) := by
  have e0 : N / 2 ^ (k + 1) = N / 2 ^ k / 2 := by rw [Nat.pow_succ, Nat.div_div_eq_div_mul]
  have e1 : N / D / 2 ^ k = N / 2 ^ k / D := by rw [Nat.div_div_eq_div_mul, Nat.mul_comm, ← Nat.div_div_eq_div_mul]
  rw [e0, e1]
  generalize N / 2 ^ k = M
  have h2 := Nat.div_add_mod M 2
  have h3 := Nat.div_add_mod (M / 2) D
  have h4 := Nat.mod_lt (M / 2) hD
  generalize hq : M / 2 / D = q at *
  generalize hr : M / 2 % D = r at *
  generalize hb : M % 2 = b at *
  have hM : M = D * (2 * q) + (2 * r + b) := by rw [Nat.mul_left_comm]; omega
  constructor
  · intro h
    rw [hM, Nat.mul_add_mod, Nat.mod_eq_of_lt h, Nat.mul_add_div hD, Nat.div_eq_of_lt h]
    exact ⟨rfl, by omega⟩
  · intro h
    have hM' : M = D * (2 * q + 1) + (2 * r + b - D) := by rw [Nat.mul_add]; omega
    have hlt : 2 * r + b - D < D := by omega
    rw [hM', Nat.mul_add_mod, Nat.mod_eq_of_lt hlt, Nat.mul_add_div hD, Nat.div_eq_of_lt hlt]
    exact ⟨rfl, by omega⟩

/-- Bits with one more ahead of them. -/
theorem more_bits (r b : Nat) (hb : b < 2) : (Value.int .i64 (b : Int)) :: someBits r (blen r) = someBits (2 * r + b) (blen r + 1) := by
  unfold someBits
  rw [List.range_succ_eq_map, List.map_cons, List.map_map]
  congr 1
  · unfold bitV bitAt
    congr 1
    simp
    omega
  · refine List.map_congr_left fun j _ => ?_
    show bitV r j = bitV (2 * r + b) (j + 1)
    unfold bitV bitAt
    rw [Nat.pow_succ, Nat.mul_comm (2 ^ j) 2, ← Nat.div_div_eq_div_mul, show (2 * r + b) / 2 = r from by omega]
theorem more_len (r b : Nat) (hb : b < 2) : blen (2 * r + b) ≤ blen r + 1 := by
  have := blen_le.1 (Nat.le_refl (blen r))
  refine blen_le.2 ?_
  rw [Nat.pow_succ]
  omega

/-- The quotient's bits from place k on. -/
def quoB (Q k L : Nat) : Array Value := ((List.range L).map fun j => if k ≤ j then bitV Q j else .int .i64 0).toArray
theorem quoB_size (Q k L : Nat) : (quoB Q k L).size = L := by simp [quoB]
theorem quoB_get (Q k L j : Nat) (h : j < L) : (quoB Q k L)[j]? = some (if k ≤ j then bitV Q j else .int .i64 0) := by
  unfold quoB
  simp [h]
theorem quoB_start (Q L : Nat) : madeCells #[.int .i64 0] L = quoB Q L L := by
  apply Array.toList_inj.1
  rw [toList_madeCells_one]
  unfold quoB
  refine List.ext_getElem (by simp) fun i h1 h2 => ?_
  simp at h1
  simp [show ¬ L ≤ i from by omega]
theorem quoB_zero (Q k L : Nat) (h : bitAt Q k = 0) : quoB Q (k + 1) L = quoB Q k L := by
  unfold quoB
  congr 1
  refine List.map_congr_left fun j _ => ?_
  by_cases h1 : k + 1 ≤ j
  · rw [if_pos h1, if_pos (by omega)]
  · rw [if_neg h1]
    by_cases h2 : k ≤ j
    · obtain rfl : j = k := by omega
      rw [if_pos h2]
      unfold bitV
      rw [h]
    · rw [if_neg h2]
theorem quoB_one (Q k L : Nat) (h : bitAt Q k = 1) : (quoB Q (k + 1) L).setIfInBounds k (.int .i64 1) = quoB Q k L := by
  apply Array.ext_getElem?
  intro j
  rw [Array.getElem?_setIfInBounds]
  by_cases hj : j < L
  · rw [quoB_get Q k L j hj, quoB_get Q (k + 1) L j hj, quoB_size]
    by_cases e : k = j
    · subst e
      rw [if_pos rfl, if_pos hj, if_pos (Nat.le_refl _)]
      unfold bitV
      rw [h]
    · rw [if_neg e]
      by_cases h1 : k + 1 ≤ j
      · rw [if_pos h1, if_pos (by omega)]
      · rw [if_neg h1, if_neg (by omega)]
  · rw [Array.getElem?_eq_none (by rw [quoB_size]; omega), Array.getElem?_eq_none (by rw [quoB_size]; omega), quoB_size]
    split
    · split
      · omega
      · rfl
    · rfl

/-- append of bits onto a row of one's own. -/
theorem run_append_nil' {w : World} (base : Nat) (ty : TypeId) (i : TypeInfo) (hi : Try.prog.info? 3 = some i) (v : Value) (n : Nat) (xs : List Value) (hown : w.ownsRow base 3 1 v n xs) (c : Nat) : (Builtin.append_ #[27, 27] ty #[v, .slice none 0 c]).run Try.prog w = .ok v w := by
  rcases hown.2 with ⟨rfl, rfl⟩ | ⟨g, cap, cur, rfl, _, _, hnc, _⟩
  · simp [Builtin.append_, run_underlying Try.underlying27, sizeOf, typeInfo, hi, Builtin.lenOf, Builtin.firstCells]
  · simp [Builtin.append_, run_underlying Try.underlying27, sizeOf, typeInfo, hi, Builtin.lenOf, Builtin.firstCells, hnc, storeCells]
theorem wpl_append_row {w : World} {ops : Array Oper} {rest : List Oper} {o : Oper} {a : Act} {Q : Exit → Act → World → Prop} (hgd : o.guard = none) (s x : Operand)
    (ho : o.op = .call { callee := .builtin .append, args := #[s, x], argTypes := #[27, 27] }) (base k : Nat) {v : Value} (xs : List Value) (hs : a.eval s = v) (hown : w.ownsRow base 3 1 v k xs)
    (c : Option Addr) (cap : Nat) (L : Nat) (f : Nat → Value) (hf : ∀ i, ∃ z, f i = .int .i64 z) (hx : a.eval x = .slice c L cap) (hN : RowAt w c L f) (hbase : base ≤ w.heap.size) (hb : k + L ≤ 1000000)
    (h : ∀ v' w', w'.ownsRow base 3 1 v' (k + L) (xs ++ (List.range L).map f) → Below base w w' → wpList Try.prog ops Q rest (a.put o.dst v') w') : wpList Try.prog ops Q (o :: rest) a w := by
  obtain ⟨i0, hi, hz0, hz1, hz2⟩ := info_parts infoInt
  refine wpList_plain hgd fun K hK => ?_
  by_cases hL : L = 0
  · subst hL
    cases c with
    | none =>
      have hrun := run_append_nil' base o.type i0 hi v k xs hown cap
      unfold Oper.wp
      simp [execOp, ho, resolve, invoke, builtin, hs, hx, hrun, Result.andThen]
      exact hK _ _ (h v w (by simpa using hown) (Below.refl _ _))
    | some y =>
      refine wp_append_own w s x 27 ho base 3 i0 _ 1 8 Try.underlying27 hi hz0 hz1 hz2 rfl (by decide) v k xs hs hown y 0 cap [] hx rfl (fun j u hj => by simp at hj) (by simp) (by unfold maxLen; omega) (by omega) hbase fun v' w' h1 h2 h3 => hK _ _ (h v' w' (by simpa using h1) ?_)
      exact (Below.refl base w).grown h2 hbase (fun q e => (hown.lt q e).1)
  · obtain ⟨b, o', rfl, hc⟩ := hN (by omega)
    refine wp_append_own w s x 27 ho base 3 i0 _ 1 8 Try.underlying27 hi hz0 hz1 hz2 rfl (by decide) v k xs hs hown ⟨b, o', none⟩ L cap ((List.range L).map f) hx (by simp) (fun j u hj => ?_) ?_ (by unfold maxLen; omega) (by omega) hbase fun v' w' h1 h2 h3 => hK _ _ (h v' w' h1 ?_)
    · have hjl : j < L := by have := (List.getElem?_eq_some_iff.1 hj).1; simpa using this
      rw [add_plain]
      rw [List.getElem?_map, List.getElem?_range hjl] at hj
      cases hj
      exact hc j hjl
    · intro u hu
      obtain ⟨j, _, rfl⟩ := List.mem_map.1 hu
      obtain ⟨z, e⟩ := hf j
      rw [e]
      rfl
    · exact (Below.refl base w).grown h2 hbase (fun q e => (hown.lt q e).1)

end Go.Proofs.Ytncodoaphfeefaa
