/- The document's answer for terms (chattelref05): Below. -/
import Derived.Test.YtglnnllodoljkaaDoorTermG
import Derived.Test.YtglnnllodoljkaaDoorTermD
import Derived.RangeFuncBox
import Derived.Maps.AppendAt
namespace Go.Proofs.YtglnnllodoljkaaDoor
open Go.RowKit
set_option linter.unusedVariables false
set_option linter.unusedSimpArgs false

/-- The places of the first k terms below a node, as cells. -/
def plc (ns : List Nd) (i k : Nat) : List Value := (kidsL ns i k).map fun x => Value.int .i64 x.2
theorem plc_succ (ns : List Nd) (i k : Nat) : plc ns i (k + 1) = plc ns i k ++ [.int .i64 (place ns i k : Int)] := by
  unfold plc
  rw [kidsL_succ, List.map_append]
  rfl
def RefBelowEnd (ns : List Nd) (i : Nat) (w : World) (e : Ending) (w' : World) : Prop :=
  ∃ v, e = .returned v ∧ w'.ownsRow w.heap.size 3 1 v (mny (Nd.at ns i).op) (plc ns i (mny (Nd.at ns i).op)) ∧ Below w.heap.size w w'

set_option maxHeartbeats 2000000 in
set_option maxRecDepth 100000 in
theorem refbelow_ok (a : Option Addr) (cap : Nat) (ns : List Nd) (hl : ns.length ≤ 1000000) (i q : Nat) (hq : skip 1 ((opsOf ns).drop i) = some q) (w : World) (hN : NdsAt w a ns) :
    Calls Tryd.prog 15 #[.slice a ns.length cap, .int .i64 i] w (RefBelowEnd ns i w) := by
  obtain ⟨i0, hi, hz0, hz1, hz2⟩ := info_parts infoInt
  have hin : i < ns.length := by
    rcases Nat.lt_or_ge i ns.length with h | h
    · exact h
    · rw [skip_over h] at hq; cases hq
  have hop0 : shp (Nd.at ns i).op 0 ≠ 0 := fun h => by rw [skip_none hin h] at hq; cases hq
  obtain ⟨r, hr⟩ : ∃ r, skip (mny (Nd.at ns i).op) ((opsOf ns).drop (i + 1)) = some r := by
    rw [skip_one hin hop0] at hq
    cases e : skip (mny (Nd.at ns i).op) ((opsOf ns).drop (i + 1)) with
    | none => rw [e] at hq; cases hq
    | some r => exact ⟨r, rfl⟩
  clear hq hop0
  have HN := Lib.hid hN
  have HIN := Lib.hid hin
  obtain ⟨b, o, rfl, hc⟩ := hN (by omega)
  have c0 : w.cell? ⟨b, o + i * 5, none⟩ = some (.int .i64 (Nd.at ns i).op) := hc i hin 0 _ rfl
  have hb0 : b < w.heap.size := World.block_lt_of_cell? w _ c0
  clear hc hN
  unfold RefBelowEnd
  obtain ⟨op, hop⟩ : ∃ op, (Nd.at ns i).op = op := ⟨_, rfl⟩
  rw [hop] at c0 hr ⊢
  have hm4 := (mny_int op).2
  have hks := kidB_size op
  obtain ⟨M, hM⟩ : ∃ M, mny op = M := ⟨_, rfl⟩
  rw [hM] at hr hm4 hks ⊢
  have HR := Lib.hid hr
  clear hM hop hr
  have h4 : (i : Int) < (ns.length : Int) := by omega
  have HC := Lib.hid c0
  clear c0
  go_enter Tryd.func15, Tryd.ntmps15
  go_wp2_with fail
  go_loopw [5, 6, 7] (fun v p c wr => ∃ k j : Nat, k ≤ M ∧ p = .int .i64 (j : Int) ∧ c = .int .i64 (k : Int) ∧ Hid (place ns i k = j) ∧ wr.ownsRow w.heap.size 3 1 v k (plc ns i k) ∧ Below w.heap.size w wr) (fun _ _ c _ => M - (intOf c).toNat)
  case atStart => exact ⟨0, i + 1, by omega, by simp, rfl, place_zero ns i, World.ownsRow_nil _ _ _ _, Below.refl _ _⟩
  case round =>
    obtain ⟨k, j, hk, rfl, rfl, HP, hown, hbl⟩ := hrel
    obtain ⟨a0, cap0, rfl, g0, g1, g2, g3, g4⟩ := owned_parts hown
    clear g0 g1 g2 g4
    have G3 := Lib.hid g3
    clear g3
    have c0 : wr.cell? ⟨b, o + i * 5, none⟩ = some (.int .i64 op) := (hbl.cell (p := ⟨b, o + i * 5, none⟩) hb0).trans HC.out
    have HK := Lib.hid (refkids_ok op wr)
    by_cases hkM : k < M
    · have hk1 : (k : Int) < (M : Int) := by omega
      obtain ⟨x, hx1, hx2⟩ := place_next HR.out hkM
      rw [HP.out] at hx1 hx2
      have hpl := Lib.hid (place_le HR.out HIN.out (show k + 1 ≤ M by omega)).1
      have hpl0 := (place_le HR.out HIN.out (show k ≤ M by omega)).1
      rw [HP.out] at hpl0
      obtain ⟨j', hj'⟩ : ∃ j', place ns i (k + 1) = j' := ⟨_, rfl⟩
      rw [hj'] at hx2 hpl
      have hjl' : j' ≤ ns.length := hpl.out
      have HX1 := Lib.hid hx1
      have HX2 := Lib.hid hx2
      have HP' := Lib.hid hj'
      clear hx1 hx2 hj' hkM hpl
      go_wp2_with fail
      with_reducible refine HK.out.mono ?_
      rintro e w2 ⟨rfl, hb2⟩
      have hbl2 : Below w.heap.size w w2 := hbl.trans (hb2.mono hbl.size)
      have hown2 : w2.ownsRow w.heap.size 3 1 (.slice a0 k cap0) k (plc ns i k) := hown.kept (below_row hb2 none) (by cases a0 with | none => exact Or.inl rfl | some x => exact Or.inr (by simp [Value.ownBlock]))
      have hj1 : j ≤ 1000000 := by omega
      have hk4 : k ≤ 4 := by omega
      clear hown hbl
      go_wp2_with (at_builtin; refine wpList_append_own _ rfl _ _ 27 rfl w.heap.size 3 i0 (.int .i64 0) 1 8 Tryd.underlying27 hi hz0 hz1 hz2 rfl (by decide) _ _ _ rfl (hown2.alloc _) ⟨w2.heap.size, 0, none⟩ 1 1 [.int .i64 (j : Int)] rfl rfl (news_one _ _ _) (by simp [Value.oneCell']) (by unfold maxLen; omega) (by omega) (by have := hbl2.size; simp; omega) ?_; intro v' w3 hown' hgrow _)
      have hzal : Below w.heap.size w (w2.alloc (.cells #[.int .i64 (j : Int)] 3)) := hbl2.alloc hbl2.size _
      have hro : ∀ z, z < w.heap.size → Value.ownBlock (.slice a0 k cap0) ≠ some z := (fun z hz e => by cases a0 with | none => cases e | some y => (simp [Value.ownBlock] at e; have := (G3.out y rfl).1; omega))
      have hbl3 : Below w.heap.size w w3 := hzal.grown hgrow hzal.size (fun z e => by rcases Nat.lt_or_ge z w.heap.size with h | h; exact absurd e (hro z h); exact h)
      rw [← HP.out, ← plc_succ] at hown'
      have HZ := Lib.hid (refsize_ok (some ⟨b, o, none⟩) cap ns hl j hj1 w3 (HN.out.after hbl3))
      rw [HX1.out] at HZ
      with_reducible refine HZ.out.mono ?_
      rintro e w4 ⟨rfl, hb4⟩
      have hbl4 : Below w.heap.size w w4 := hbl3.trans (hb4.mono hbl3.size)
      have hown4 : w4.ownsRow w.heap.size 3 1 v' (k + 1) (plc ns i (k + 1)) := hown'.kept (below_row hb4 none) (by cases hv : v'.ownBlock with | none => exact Or.inl rfl | some x => exact Or.inr (by simp))
      simp only [Option.getD_some]
      have hq' : (j : Int) + (x : Int) = (j' : Int) := by have := HX2.out; omega
      have hwr : IntKind.i64.wrap ((j : Int) + (x : Int)) = (j' : Int) := by rw [hq']; exact IntWalk.i64_in _ (by omega)
      go_wp2_with fail
      exact ⟨⟨k + 1, j', by omega, rfl, by simp, HP', hown4, hbl4⟩, by simp [intOf]; omega⟩
    · obtain rfl : k = M := by omega
      go_wp2_with fail
      with_reducible refine HK.out.mono ?_
      rintro e w2 ⟨rfl, hb2⟩
      have hbl2 : Below w.heap.size w w2 := hbl.trans (hb2.mono hbl.size)
      have hown2 : w2.ownsRow w.heap.size 3 1 (.slice a0 k cap0) k (plc ns i k) := hown.kept (below_row hb2 none) (by cases a0 with | none => exact Or.inl rfl | some x => exact Or.inr (by simp [Value.ownBlock]))
      go_wp2_with fail
      go_ret
      exact ⟨_, rfl, hown2, hbl2⟩

end Go.Proofs.YtglnnllodoljkaaDoor
