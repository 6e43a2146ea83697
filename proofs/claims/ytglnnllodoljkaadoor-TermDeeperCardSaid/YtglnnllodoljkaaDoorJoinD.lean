/- Joinings: a plain law. -/
import Derived.Test.YtglnnllodoljkaaDoorJoinC
import Derived.Test.YtglnnllodoljkaaDoorTermV
namespace Go.Proofs.YtglnnllodoljkaaDoor
open Go.RowKit Go.Shelf
set_option linter.unusedVariables false
set_option linter.unusedSimpArgs false

/-- Whether the places of the terms below are those of the parts. -/
def fitsP (n : Nd) (ps : List Pt) : Prop := mny n.op = ps.length ∧ ∀ i, i < ps.length → place (n :: catN ps) 0 i = startN ps i
theorem startN_all (ps : List Pt) : startN ps ps.length = 1 + (catN ps).length := by unfold startN; rw [List.take_length]
theorem end_len {ns : List Nd} {i j : Nat} (h : endV ns i = (j : Int)) : ∃ q, skip 1 ((opsOf ns).drop i) = some q ∧ i + q = j := by
  cases e : skip 1 ((opsOf ns).drop i) with
  | none => rw [endV_none e] at h; omega
  | some q => rw [endV_some e] at h; exact ⟨q, rfl, by omega⟩
theorem skip_over_pos {ns : List Nd} {i k : Nat} (h : ns.length ≤ i) (hk : 0 < k) : skip k ((opsOf ns).drop i) = none := by
  rw [opsOf_over ns i h]
  cases k with
  | zero => omega
  | succ k => rfl
theorem skip_same {ns : List Nd} {i L M r : Nat} (h : skip L ((opsOf ns).drop i) = some r) (h' : skip M ((opsOf ns).drop i) = some r) (hr : ns.length ≤ i + r) : L = M := by
  rcases Nat.lt_trichotomy L M with hlt | rfl | hlt
  · obtain ⟨d, rfl⟩ : ∃ d, M = L + d := ⟨M - L, by omega⟩
    rw [skip_add, h, Option.bind_some, List.drop_drop, skip_over_pos hr (by omega)] at h'
    cases h'
  · rfl
  · obtain ⟨d, rfl⟩ : ∃ d, L = M + d := ⟨L - M, by omega⟩
    rw [skip_add, h', Option.bind_some, List.drop_drop, skip_over_pos hr (by omega)] at h
    cases h
theorem join_places {n : Nd} {ps : List Pt} (hp : partsOk n ps) : ∀ k, k ≤ ps.length → skip k ((opsOf (n :: catN ps)).drop 1) = some (startN ps k - 1)
  | 0, _ => by rw [skip_zero]; simp [startN, catN]
  | k + 1, hk => by
    have ih := join_places hp k (by omega)
    have h1 : 1 ≤ startN ps k := by unfold startN; omega
    obtain ⟨q, h2, h3⟩ := end_len (hp k (by omega)).2
    rw [skip_next ih, show 1 + (startN ps k - 1) = startN ps k from by omega, h2]
    simp
    omega
theorem join_fits {n : Nd} {ps : List Pt} (h : (ofV (n :: catN ps)).2 = 0) : partsOk n ps ↔ fitsP n ps := by
  obtain ⟨_, hlen, h3, _, _, _, _⟩ := ofV_ok h
  have hT : (n :: catN ps).length = 1 + (catN ps).length := by simp; omega
  obtain ⟨_, r, hr, hr1⟩ := kids_within (ns := n :: catN ps) (i := 0) hlen (by rw [List.drop_zero]; exact h3)
  have ha : Nd.at (n :: catN ps) 0 = n := rfl
  rw [ha] at hr
  constructor
  · intro hp
    have hpl := join_places hp
    have hL := hpl ps.length (Nat.le_refl _)
    rw [startN_all, show 1 + (catN ps).length - 1 = r from by omega] at hL
    refine ⟨(skip_same hL hr (by omega)).symm, fun i hi => ?_⟩
    have h1 : 1 ≤ startN ps i := by unfold startN; omega
    rw [place_at (hpl i (by omega))]
    omega
  · rintro ⟨hM, hpl⟩ k hk
    obtain ⟨p1, p2, q', hq', p3, p4⟩ := place_in (ns := n :: catN ps) (i := 0) hlen (by rw [List.drop_zero]; exact h3) (k := k) (by rw [ha]; omega)
    have hq1 := (skip_le _ _ _ hq').1
    have hs := startN_succ ps k hk
    have hnext : place (n :: catN ps) 0 (k + 1) = startN ps (k + 1) := by
      rcases Nat.lt_or_ge (k + 1) ps.length with h1 | h1
      · exact hpl _ h1
      · obtain h2 : k + 1 = ps.length := by omega
        rw [h2, startN_all, ← hM, place_end hr]
        omega
    rw [hpl k hk] at hq' p4
    refine ⟨by omega, ?_⟩
    rw [endV_some hq']
    omega
/-- The size of a part, as the term that it is. -/
theorem join_size {n : Nd} {ps : List Pt} (h : (ofV (n :: catN ps)).2 = 0) (hf : fitsP n ps) {k : Nat} (hk : k < ps.length) : sizeV (n :: catN ps) (startN ps k) = (((Pt.at ps k).ns.length : Int), 0) := by
  have hp := (join_fits h).2 hf
  obtain ⟨q, h2, h3⟩ := end_len (hp k hk).2
  have hs := startN_succ ps k hk
  have hlt : startN ps k < (n :: catN ps).length := by
    rcases Nat.lt_or_ge (startN ps k) (n :: catN ps).length with g | g
    · exact g
    · rw [skip_over g] at h2; cases h2
  unfold sizeV
  rw [if_neg (by omega), show ((startN ps k : Nat) : Int).toNat = startN ps k from rfl, h2]
  simp
  omega

set_option maxHeartbeats 1000000 in
set_option maxRecDepth 100000 in
theorem nodes_ok (a b : Option Addr) (ca cb : Nat) (ns : List Nd) (hl : ns.length ≤ 1000000) (w : World) (hx : NdsAt w a ns) (hy : NdsAt w b ns) :
    Calls Tryd.prog 26 #[.slice a ns.length ca, .slice b ns.length cb] w fun e w' => e = .returned (.bool true) ∧ Below w.heap.size w w' := by
  have HX := Lib.hid hx
  have HY := Lib.hid hy
  clear hx hy
  go_enter Tryd.func26, Tryd.ntmps26
  go_wp2_with fail
  go_loopw [5] (fun c wr => ∃ k : Nat, k ≤ ns.length ∧ c = .int .i64 (k : Int) ∧ Below w.heap.size w wr) (fun c _ => ns.length - (intOf c).toNat)
  case atStart => exact ⟨0, by omega, by simp, Below.refl _ _⟩
  case round =>
    obtain ⟨k, hk, rfl, hbl⟩ := hrel
    by_cases hlt : k < ns.length
    · have hlt' : (k : Int) < (ns.length : Int) := by omega
      obtain ⟨bx, ox, rfl, hcx⟩ := (HX.out.after hbl) (by omega)
      obtain ⟨by_, oy, rfl, hcy⟩ := (HY.out.after hbl) (by omega)
      have x0 : wr.cell? ⟨bx, ox + k * 5, none⟩ = some (.int .i64 (Nd.at ns k).op) := hcx k hlt 0 _ rfl
      have x1 : wr.cell? ⟨bx, ox + k * 5 + 1, none⟩ = some (.int .i64 (Nd.at ns k).a) := hcx k hlt 1 _ rfl
      have x2 : wr.cell? ⟨bx, ox + k * 5 + 2, none⟩ = some (.int .i64 (Nd.at ns k).b) := hcx k hlt 2 _ rfl
      have x3 : wr.cell? ⟨bx, ox + k * 5 + 3, none⟩ = some (.int .i64 (Nd.at ns k).num) := hcx k hlt 3 _ rfl
      have x4 : wr.cell? ⟨bx, ox + k * 5 + 4, none⟩ = some (.int .i64 (Nd.at ns k).den) := hcx k hlt 4 _ rfl
      have y0 : wr.cell? ⟨by_, oy + k * 5, none⟩ = some (.int .i64 (Nd.at ns k).op) := hcy k hlt 0 _ rfl
      have y1 : wr.cell? ⟨by_, oy + k * 5 + 1, none⟩ = some (.int .i64 (Nd.at ns k).a) := hcy k hlt 1 _ rfl
      have y2 : wr.cell? ⟨by_, oy + k * 5 + 2, none⟩ = some (.int .i64 (Nd.at ns k).b) := hcy k hlt 2 _ rfl
      have y3 : wr.cell? ⟨by_, oy + k * 5 + 3, none⟩ = some (.int .i64 (Nd.at ns k).num) := hcy k hlt 3 _ rfl
      have y4 : wr.cell? ⟨by_, oy + k * 5 + 4, none⟩ = some (.int .i64 (Nd.at ns k).den) := hcy k hlt 4 _ rfl
      have hwk : IntKind.i64.wrap ((k : Int) + 1) = (k : Int) + 1 := IntWalk.i64_in _ (by omega)
      have HLT := Lib.hid hlt
      obtain ⟨⟨n0, n1, n2, n3, n4⟩, hnn⟩ : ∃ n, Nd.at ns k = n := ⟨_, rfl⟩
      rw [hnn] at x0 x1 x2 x3 x4 y0 y1 y2 y3 y4
      dsimp only at x0 x1 x2 x3 x4 y0 y1 y2 y3 y4
      clear hcx hcy hlt hnn
      go_wp2_with (go_quiet (fail))
      go_roundw
      case rel => exact ⟨k + 1, by have := HLT.out; omega, by go_num, below_drewN hbl _⟩
      case measure => have := HLT.out; simp [intOf]; omega
    · obtain rfl : k = ns.length := by omega
      go_wp2_with fail
      go_ret
      exact ⟨rfl, hbl⟩

end Go.Proofs.YtglnnllodoljkaaDoor
