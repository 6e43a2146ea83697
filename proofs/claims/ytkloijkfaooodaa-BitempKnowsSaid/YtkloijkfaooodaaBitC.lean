/- Package bitemp: a store in memory; New, Len, Seq, place, of. -/
import Derived.Test.YtkloijkfaooodaaBitB
import Derived.Test.YtkloijkfaooodaaTurn
import Derived.Test.YtkloijkfaooodaaRangeB
import Derived.BigQuiet
import Derived.Deep.QuietTactic
import Derived.Deep.RegionHeld3
import Derived.Deep.DrawnRows
import Derived.OwnWalkIn
import Derived.TacticsInMore
import Derived.LoopNIn
import Derived.LoopIn
namespace Go.Proofs.Ytkloijkfaooodaa
open Go.RowKit
set_option linter.unusedVariables false
set_option linter.unusedSimpArgs false

def natC (is : List Nat) : List Value := is.map fun (i : Nat) => Value.int .i64 (i : Int)
theorem natC_len (is : List Nat) : (natC is).length = is.length := List.length_map _
theorem natC_one (is : List Nat) : ∀ u ∈ natC is, u.oneCell' = true := fun u hu => by
  unfold natC at hu
  obtain ⟨i, _, rfl⟩ := List.mem_map.1 hu
  rfl
theorem encS_one : ∀ x : Vs, ∀ v ∈ encS x, v.oneCell' = true := fun x v hv => by simp [encS] at hv; rcases hv with rfl | rfl | rfl | rfl | rfl | rfl | rfl <;> rfl
def entP (e : PK × Value) : Value × Value := (pkV e.1, e.2)
/-- What the map of places holds. -/
structure PlAt (w : World) (base bm : Nat) (V : List Vs) (E : List (PK × Value)) : Prop where
  map : MapAt OkPk w bm (E.map entP)
  own : ∀ e ∈ E, idxP V e.1 ≠ [] ∧ w.ownsRow base 3 1 e.2 (idxP V e.1).length (natC (idxP V e.1))
  all : ∀ q, idxP V q ≠ [] → ∃ v, (q, v) ∈ E
/-- A store in memory. -/
structure StAt (w : World) (base p bm : Nat) (sv : Value) (V : List Vs) : Prop where
  blk : Blk w p #[sv, .map (some bm)] 83
  own : w.ownsRow base 26 7 sv V.length (cellsL encS V)
  map : ∃ E, PlAt w base bm V E
  hp : base ≤ p
  hm : base ≤ bm
theorem PlAt.turn {w w' : World} {base bm : Nat} {V : List Vs} {E : List (PK × Value)} {bs : List Nat} (h : PlAt w base bm V E) (ht : Turn bs w w') (h2 : bm ∉ bs) (hty : ∀ b ∈ bs, ∀ cur, w.heap[b]? ≠ some (.cells cur 3 (0, 0))) : PlAt w' base bm V E :=
  ⟨h.map.block (ht.block bm h.map.lt h2), fun e he => ⟨(h.own e he).1, ht.own (h.own e he).2 fun g hg hb => by
    obtain ⟨_, _, cur, hc⟩ := own_cells (h.own e he).2 hg
    exact hty g hb cur hc⟩, h.all⟩
theorem StAt.turn {w w' : World} {base p bm : Nat} {sv : Value} {V : List Vs} {bs : List Nat} (h : StAt w base p bm sv V) (ht : Turn bs w w') (h1 : p ∉ bs) (h2 : bm ∉ bs) (h3 : ∀ g, sv.ownBlock = some g → g ∉ bs) (hty : ∀ b ∈ bs, ∀ cur, w.heap[b]? ≠ some (.cells cur 3 (0, 0))) : StAt w' base p bm sv V := by
  obtain ⟨E, hE⟩ := h.map
  exact ⟨ht.blk h.blk h1, ht.own h.own h3, ⟨E, hE.turn ht h2 hty⟩, h.hp, h.hm⟩
theorem StAt.after {w w' : World} {base p bm : Nat} {sv : Value} {V : List Vs} (h : StAt w base p bm sv V) (hb : Below w.heap.size w w') : StAt w' base p bm sv V :=
  h.turn (bs := []) (Turn.of_below hb) (by simp) (by simp) (by simp) (by simp)
theorem StAt.lt {w : World} {base p bm : Nat} {sv : Value} {V : List Vs} (h : StAt w base p bm sv V) : p < w.heap.size ∧ bm < w.heap.size := by
  obtain ⟨E, hE⟩ := h.map
  exact ⟨h.blk.lt, hE.map.lt⟩
theorem StAt.ne {w : World} {base p bm : Nat} {sv : Value} {V : List Vs} (h : StAt w base p bm sv V) : p ≠ bm := by
  rintro rfl
  obtain ⟨E, hE⟩ := h.map
  obtain ⟨es, c, h1, _⟩ := hE.map
  have h2 : w.heap[p]? = _ := h.blk
  rw [h2] at h1
  cases h1
/-- What a store's calls may turn. -/
def StAt.bs (p bm : Nat) (sv : Value) : List Nat := p :: bm :: sv.ownBlock.toList
theorem StAt.notint {w : World} {base p bm : Nat} {sv : Value} {V : List Vs} (h : StAt w base p bm sv V) : ∀ b ∈ StAt.bs p bm sv, ∀ cur, w.heap[b]? ≠ some (.cells cur 3 (0, 0)) := by
  intro b hb cur hc
  unfold StAt.bs at hb
  rcases List.mem_cons.1 hb with rfl | hb
  · have h2 : w.heap[b]? = _ := h.blk
    rw [h2] at hc
    simp at hc
  · rcases List.mem_cons.1 hb with rfl | hb
    · obtain ⟨E, hE⟩ := h.map
      obtain ⟨es, c, h1, _⟩ := hE.map
      rw [h1] at hc
      cases hc
    · obtain ⟨_, _, cur', hc'⟩ := own_cells h.own (Option.mem_toList.1 hb)
      rw [hc'] at hc
      simp at hc

def NewEnd12 (w : World) (base : Nat) (e : Ending) (w' : World) : Prop :=
  ∃ p bm, e = .returned (.pointer (some ⟨p, 0, none⟩)) ∧ StAt w' base p bm (.slice none 0 0) [] ∧ Below w.heap.size w w' ∧ w.heap.size ≤ p ∧ w.heap.size ≤ bm
theorem bnew_ok (base : Nat) (w : World) (hbase : base ≤ w.heap.size) : Calls Try.prog 10 #[] w (NewEnd12 w base) := by
  have hmm := @run_makeMap Try.prog
  go_enter Try.func10, Try.ntmps10
  go_wp2
  go_ret
  have b1 : Below w.heap.size w (w.alloc (.map #[] 0)) := (Below.refl _ _).alloc (Nat.le_refl _) _
  have m1 : MapAt OkPk (w.alloc (.map #[] 0)) w.heap.size [] := MapAt.made OkPk w
  refine ⟨w.heap.size + 1, w.heap.size, rfl, ⟨?_, World.ownsRow_nil _ _ _ _, ⟨[], m1.after ((Below.refl _ _).alloc (Nat.le_refl _) _), (fun e he => by cases he), fun q hq => absurd rfl hq⟩, by omega, hbase⟩, b1.alloc (by simp) _, by omega, Nat.le_refl _⟩
  have := Blk.new (w.alloc (.map #[] 0)) #[.slice none 0 0, .map (some w.heap.size)] 83
  simpa using this

theorem blen_ok (base p bm : Nat) (sv : Value) (V : List Vs) (w : World) (h : StAt w base p bm sv V) : Calls Try.prog 15 #[.pointer (some ⟨p, 0, none⟩)] w fun e w' => e = .returned (.int .i64 V.length) ∧ w' = w := by
  obtain ⟨a, cap, rfl, _⟩ := owned_recs (enc := encS) (size := 7) (fun _ => rfl) h.own rfl
  have c0 : w.cell? ⟨p, 0, none⟩ = some (.slice a V.length cap) := h.blk.cell 0 rfl
  clear h
  go_enter Try.func15, Try.ntmps15
  go_wp2_with fail
  go_ret
  exact ⟨rfl, rfl⟩
theorem seqV_at {V : List Vs} (h : 0 < V.length) : ∃ v, V[V.length - 1]? = some v ∧ seqV V = v.s := by
  have h1 : V.getLast? = V[V.length - 1]? := List.getLast?_eq_getElem?
  refine ⟨V[V.length - 1], List.getElem?_eq_getElem (by omega), ?_⟩
  unfold seqV
  rw [h1, List.getElem?_eq_getElem (by omega)]
set_option maxHeartbeats 1000000 in
theorem bseq_ok (base p bm : Nat) (sv : Value) (V : List Vs) (w : World) (h : StAt w base p bm sv V) (hl : V.length ≤ 2513169434910) : Calls Try.prog 31 #[.pointer (some ⟨p, 0, none⟩)] w fun e w' => e = .returned (.int .i64 (seqV V)) ∧ w' = w := by
  have HL := Lib.hid (blen_ok base p bm sv V w h)
  obtain ⟨a, cap, rfl, _, _, _, _, hR⟩ := owned_recs (enc := encS) (size := 7) (fun _ => rfl) h.own rfl
  have c0 : w.cell? ⟨p, 0, none⟩ = some (.slice a V.length cap) := h.blk.cell 0 rfl
  clear h
  by_cases h0 : 0 < V.length
  · obtain ⟨v, hv, hs⟩ := seqV_at h0
    obtain ⟨b, o, rfl, _⟩ := hR h0
    have c1 : w.cell? ⟨b, o + (V.length - 1) * 7, none⟩ = some (.int .i64 v.s) := RecsAt.cell hR rfl (by omega) hv (j := 0) rfl
    have HS := Lib.hid hs
    have i1 : (0 : Int) < (V.length : Int) := by omega
    have i2 : (0 : Int) ≤ (V.length : Int) - 1 := by omega
    have i3 : (V.length : Int) - 1 < (V.length : Int) := by omega
    have d0 : decide ((0 : Int) < (V.length : Int)) = true := decide_eq_true i1
    clear hv hs hR
    go_enter Try.func31, Try.ntmps31
    go_wp2_with fail
    with_reducible refine HL.out.mono ?_
    rintro e w1 ⟨rfl, rfl⟩
    go_wp2_with fail
    go_ret
    rw [HS.out]
    exact ⟨rfl, rfl⟩
  · have hV : V = [] := List.length_eq_zero_iff.1 (by omega)
    subst hV
    clear hR
    go_enter Try.func31, Try.ntmps31
    go_wp2_with fail
    with_reducible refine HL.out.mono ?_
    rintro e w1 ⟨rfl, rfl⟩
    go_wp2_with fail
    go_ret
    exact ⟨rfl, rfl⟩
theorem bplace_ok (v : Vs) (w : World) : Calls Try.prog 70 #[.agg (encS v).toArray] w fun e w' => e = .returned (pkV v.pl) ∧ Below w.heap.size w w' := by
  have hb := Blk.new w (encS v).toArray 26
  obtain ⟨s, c, k, d, n, m, p⟩ := v
  dsimp only [encS] at *
  have x0 := hb.cell 0 rfl
  have x1 := hb.cell 1 rfl
  have x2 := hb.cell 2 rfl
  have x3 := hb.cell 3 rfl
  clear hb
  go_enter Try.func70, Try.ntmps70
  go_wp2_with fail
  exact bodyPost_ret (v := .agg #[.bool c, .int .i64 k, .int .i64 d]) (by simp [results, Try.results70, go_sem]) rfl ⟨rfl, ((Below.refl _ _).alloc (Nat.le_refl _) _).alloc (by simp) _⟩

end Go.Proofs.Ytkloijkfaooodaa
