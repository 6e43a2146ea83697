/- Package entry: Clone and turned: lines of one's own. -/
import Derived.Test.YtmjgcenhgpkhiaaDoorEntA
namespace Go.Proofs.YtmjgcenhgpkhiaaDoor
open Go.RowKit
set_option linter.unusedVariables false
set_option linter.unusedSimpArgs false


theorem infoLine : (Tryd.prog.info? 69).map (fun i => (i.zero, i.size, i.bytes)) = some (some (.agg #[.int .i64 0, .int .i64 0, .int .i64 0]), 3, 24) := by kernel_rfl

/-- Lines as a row of cells. -/
def lnCells : List Ln → List Value
  | [] => []
  | l :: ls => .int .i64 l.p :: .int .i64 l.c :: .int .i64 l.a :: lnCells ls
theorem lnCells_len : ∀ ls : List Ln, (lnCells ls).length = ls.length * 3
  | [] => rfl
  | l :: ls => by simp [lnCells, lnCells_len ls]; omega
theorem lnCells_get : ∀ (ls : List Ln) (i : Nat), i < ls.length → (lnCells ls)[i * 3]? = some (.int .i64 (Ln.at ls i).p) ∧ (lnCells ls)[i * 3 + 1]? = some (.int .i64 (Ln.at ls i).c) ∧ (lnCells ls)[i * 3 + 2]? = some (.int .i64 (Ln.at ls i).a)
  | [], i, h => absurd h (by simp)
  | l :: ls, 0, _ => ⟨rfl, rfl, rfl⟩
  | l :: ls, i + 1, h => by
    have := lnCells_get ls i (by simpa using h)
    rw [show (i + 1) * 3 = i * 3 + 1 + 1 + 1 from by omega]
    exact this
theorem lnCells_one : ∀ (ls : List Ln), ∀ u ∈ lnCells ls, u.oneCell' = true
  | [], u, h => by simp [lnCells] at h
  | l :: ls, u, h => by
    simp only [lnCells, List.mem_cons] at h
    rcases h with rfl | rfl | rfl | h
    · rfl
    · rfl
    · rfl
    · exact lnCells_one ls u h
theorem at_three (i : Nat) : ∃ k j, i = k * 3 + j ∧ j < 3 := ⟨i / 3, i % 3, by omega, by omega⟩
/-- Lines in memory, cell by cell. -/
theorem LnAt.cells {w : World} {a : Option Addr} {ls : List Ln} (h : LnAt w a ls) {x : Addr} (hx : a = some x) : ∀ j u, (lnCells ls)[j]? = some u → w.cell? (x.add j) = some u := by
  intro j u hj
  obtain ⟨k, i, rfl, hi⟩ := at_three j
  have hk : k < ls.length := by
    have := (List.getElem?_eq_some_iff.1 hj).1
    rw [lnCells_len] at this
    omega
  obtain ⟨b, o, e, hc⟩ := h (by omega)
  rw [hx] at e
  cases e
  have g := lnCells_get ls k hk
  obtain ⟨c0, c1, c2⟩ := hc k hk
  rw [add_plain]
  rcases (show i = 0 ∨ i = 1 ∨ i = 2 from by omega) with rfl | rfl | rfl
  · rw [Nat.add_zero, g.1] at hj; cases hj; exact c0
  · rw [g.2.1] at hj; cases hj; exact c1
  · rw [g.2.2] at hj; cases hj; exact c2
theorem owned_lines {w : World} {base n : Nat} {v : Value} {ls : List Ln} (h : w.ownsRow base 69 3 v n (lnCells ls)) (hn : ls.length = n) :
    ∃ a cap, v = .slice a n cap ∧ (a = none → n = 0 ∧ cap = 0) ∧ LnAt w a ls ∧ (∀ x, a = some x → base ≤ x.block ∧ x.block < w.heap.size) := by
  subst hn
  obtain ⟨a, cap, rfl, g0, g1, g2, g3, g4⟩ := owned_parts h
  refine ⟨a, cap, rfl, g0, fun hl => ?_, g3⟩
  obtain ⟨b, o, rfl, hc⟩ := g4 (by omega)
  refine ⟨b, o, rfl, fun i hi => ?_⟩
  have g := lnCells_get ls i hi
  have k0 := hc (i * 3) (by omega)
  have k1 := hc (i * 3 + 1) (by omega)
  have k2 := hc (i * 3 + 2) (by omega)
  simp only [List.getD_eq_getElem?_getD] at k0 k1 k2
  rw [g.1] at k0
  rw [g.2.1] at k1
  rw [g.2.2] at k2
  exact ⟨k0, k1, k2⟩

def CloneEnd (ls : List Ln) (w : World) (e : Ending) (w' : World) : Prop :=
  ∃ v, e = .returned v ∧ w'.ownsRow w.heap.size 69 3 v ls.length (lnCells ls) ∧ Below w.heap.size w w'

theorem clone_ok (a : Option Addr) (cap : Nat) (ls : List Ln) (w : World) (hx : LnAt w a ls) (hl : ls.length ≤ 1000000) (ha : a = none → ls.length = 0 ∧ cap = 0) :
    Calls Tryd.prog 40 #[.slice a ls.length cap] w (CloneEnd ls w) := by
  obtain ⟨i0, hi, hz0, hz1, hz2⟩ := info_parts infoLine
  have heq := fun (w : World) (a : Option Addr) (n c : Nat) => Lib.run_eql_slice_nil (P := Tryd.prog) w 24 69 a n c 0 0 Tryd.underlying24
  cases a with
  | none =>
    obtain ⟨h0, rfl⟩ := ha rfl
    have hls : ls = [] := List.length_eq_zero_iff.1 h0
    subst hls
    go_enter Tryd.func40, Tryd.ntmps40
    go_wp2
    go_ret
    exact ⟨_, rfl, World.ownsRow_nil _ _ _ _, Below.refl _ _⟩
  | some x =>
    have hc := Lib.hid hx
    clear hx ha
    go_enter Tryd.func40, Tryd.ntmps40
    go_wp2_with (at_builtin; refine wpList_append_own _ rfl _ _ 24 rfl w.heap.size 69 i0 _ 3 24 Tryd.underlying24 hi hz0 hz1 hz2 rfl (by decide) _ 0 [] rfl (World.ownsRow_lit _ #[] 0 (Nat.le_refl _) (by unfold maxLen; omega) rfl) x ls.length cap (lnCells ls) rfl (lnCells_len ls) (fun j u hj => (hc.out.after ((Below.refl _ _).alloc (Nat.le_refl _) _)).cells rfl j u hj) (lnCells_one ls) (by unfold maxLen; omega) (by omega) (by simp) ?_; intro v' w1 hown' hgrow _)
    rw [Nat.zero_add, List.nil_append] at hown'
    have hb : Below w.heap.size w w1 := ((Below.refl _ _).alloc (Nat.le_refl _) _).grown hgrow (by simp) (fun q e => by cases e; exact Nat.le_refl _)
    go_wp2_with fail
    go_ret
    exact ⟨_, rfl, hown', hb⟩

/-- A line, less than nought. -/
def Ln.neg (l : Ln) : Ln := ⟨l.p, l.c, -l.a⟩
/-- Lines, the first k of which are turned. -/
def turnK : List Ln → Nat → List Ln
  | [], _ => []
  | l :: ls, 0 => l :: ls
  | l :: ls, k + 1 => l.neg :: turnK ls k
theorem turnK_zero (ls : List Ln) : turnK ls 0 = ls := by cases ls <;> rfl
theorem turnK_len : ∀ (ls : List Ln) (k : Nat), (turnK ls k).length = ls.length
  | [], _ => rfl
  | l :: ls, 0 => rfl
  | l :: ls, k + 1 => by simp [turnK, turnK_len ls k]
theorem turnK_at : ∀ (ls : List Ln) (k : Nat), Ln.at (turnK ls k) k = Ln.at ls k
  | [], _ => rfl
  | l :: ls, 0 => rfl
  | l :: ls, k + 1 => turnK_at ls k
theorem turnK_succ : ∀ (ls : List Ln) (k : Nat), k < ls.length → (turnK ls k).set k (Ln.at ls k).neg = turnK ls (k + 1)
  | [], k, h => absurd h (by simp)
  | l :: ls, 0, _ => by show (l.neg :: ls) = l.neg :: turnK ls 0; rw [turnK_zero]
  | l :: ls, k + 1, h => by
    show l.neg :: (turnK ls k).set k (Ln.at ls k).neg = l.neg :: turnK ls (k + 1)
    rw [turnK_succ ls k (by simpa using h)]
theorem turnK_full : ∀ (ls : List Ln), turnK ls ls.length = ls.map Ln.neg
  | [] => rfl
  | l :: ls => by show l.neg :: turnK ls ls.length = l.neg :: ls.map Ln.neg; rw [turnK_full ls]
theorem lnCells_set : ∀ (ls : List Ln) (k : Nat) (x : Int), k < ls.length → (lnCells ls).set (k * 3 + 2) (.int .i64 x) = lnCells (ls.set k ⟨(Ln.at ls k).p, (Ln.at ls k).c, x⟩)
  | [], k, x, h => absurd h (by simp)
  | l :: ls, 0, x, _ => rfl
  | l :: ls, k + 1, x, h => by
    rw [show (k + 1) * 3 + 2 = (k * 3 + 2) + 1 + 1 + 1 from by omega]
    show .int .i64 l.p :: .int .i64 l.c :: .int .i64 l.a :: (lnCells ls).set (k * 3 + 2) (.int .i64 x) = _
    rw [lnCells_set ls k x (by simpa using h)]
    rfl
theorem turn_cells (ls : List Ln) (k : Nat) (h : k < ls.length) : (lnCells (turnK ls k)).set (k * 3 + 2) (.int .i64 (-(Ln.at ls k).a)) = lnCells (turnK ls (k + 1)) := by
  rw [lnCells_set _ _ _ (by rw [turnK_len]; exact h), turnK_at, ← turnK_succ ls k h]
  rfl

def TurnedEnd (ls : List Ln) (w : World) (e : Ending) (w' : World) : Prop :=
  ∃ c cap, e = .returned (.slice c ls.length cap) ∧ (c = none → ls.length = 0 ∧ cap = 0) ∧ LnAt w' c (ls.map Ln.neg) ∧ (∀ x, c = some x → w.heap.size ≤ x.block ∧ x.block < w'.heap.size) ∧ Below w.heap.size w w'

set_option maxHeartbeats 1000000 in
theorem turned_ok (a : Option Addr) (cap : Nat) (ls : List Ln) (w : World) (hx : LnAt w a ls) (hl : ls.length ≤ 1000000) (ha : a = none → ls.length = 0 ∧ cap = 0) (hm : ∀ l ∈ ls, -9223372036854775807 ≤ l.a ∧ l.a ≤ 9223372036854775807) :
    Calls Tryd.prog 23 #[.slice a ls.length cap] w (TurnedEnd ls w) := by
  have HX := Lib.hid hx
  have HM := Lib.hid hm
  clear hx hm
  go_enter Tryd.func23, Tryd.ntmps23
  go_wp2_with fail
  refine (clone_ok a cap ls _ HX.out hl ha).mono ?_
  rintro e w1 ⟨v, rfl, hown, hb1⟩
  obtain ⟨c, capc, rfl, g0, g1, g2, g3, g4⟩ := owned_parts hown
  have G0 := Lib.hid g0
  clear g0 g1 g2 g3 g4 ha
  go_wp2_with fail
  go_loopw [4, 9] (fun _ i wr => ∃ k : Nat, k ≤ ls.length ∧ i = .int .i64 k ∧ wr.ownsRow w.heap.size 69 3 (.slice c ls.length capc) ls.length (lnCells (turnK ls k)) ∧ Below w.heap.size w wr) (fun _ i _ => ls.length - (intOf i).toNat)
  case atStart => exact ⟨0, by omega, rfl, by rw [turnK_zero]; exact hown, hb1⟩
  case round =>
    obtain ⟨k, hk, rfl, hro, hbl⟩ := hrel
    by_cases hlt : k < ls.length
    · have hro' := hro
      rw [← turnK_len ls k] at hro'
      have hln : LnAt wr c (turnK ls k) := by
        obtain ⟨c', cap', e, _, h3, _⟩ := owned_lines hro (turnK_len ls k)
        cases e
        exact h3
      obtain ⟨g, rfl⟩ : ∃ g, c = some ⟨g, 0, none⟩ := by
        rcases hro.2 with ⟨e, h0⟩ | ⟨g, _, _, e, _⟩
        · omega
        · cases e; exact ⟨g, rfl⟩
      obtain ⟨b, o, e, hc⟩ := hln (by rw [turnK_len]; omega)
      cases e
      have hck := (hc k (by rw [turnK_len]; exact hlt)).2.2
      rw [turnK_at] at hck
      simp only [Nat.zero_add] at hck
      have hfz := hro.frozenAt (k * 3 + 2)
      have hst := (hro.stored (k * 3 + 2) (.int .i64 (-(Ln.at ls k).a))).1
      rw [turn_cells ls k hlt] at hst
      have hgb : w.heap.size ≤ g := by
        rcases hro.2 with ⟨e, _⟩ | ⟨g', _, _, e, h, _⟩
        · cases e
        · cases e; exact h
      have hmk := HM.out (Ln.at ls k) (by unfold Ln.at; rw [List.getD_eq_getElem?_getD, List.getElem?_eq_getElem hlt]; simp)
      obtain ⟨m1, m2⟩ := hmk
      have i1 : (0 : Int) ≤ (k : Int) := by omega
      have i2 : (k : Int) < (ls.length : Int) := by omega
      clear hro hln hc hown
      go_wp2_with fail
      go_roundw
      case rel => exact ⟨k + 1, by omega, by go_num, hst, hbl.setCell (p := ⟨g, k * 3 + 2, none⟩) hgb _⟩
      case measure => simp [intOf]; omega
    · obtain rfl : k = ls.length := by omega
      rw [turnK_full] at hro
      have hlen : (ls.map Ln.neg).length = ls.length := by simp
      obtain ⟨c', cap', e, _, h3, h4⟩ := owned_lines hro hlen
      cases e
      have H3 := Lib.hid h3
      have H4 := Lib.hid h4
      clear hro hown hlen h3 h4
      go_wp2_with fail
      go_ret
      exact ⟨c, capc, rfl, G0.out, H3.out, H4.out, hbl⟩

end Go.Proofs.YtmjgcenhgpkhiaaDoor
