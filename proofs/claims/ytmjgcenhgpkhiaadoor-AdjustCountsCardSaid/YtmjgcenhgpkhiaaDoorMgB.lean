/- Package entry: Clone and turned: lines of one's own. -/
import Derived.Test.YtmjgcenhgpkhiaaDoorEntA
import Derived.Laws.StructEq
import Derived.Test.YtmjgcenhgpkhiaaDoorEntC
namespace Go.Proofs.YtmjgcenhgpkhiaaDoor
open Go.RowKit
set_option linter.unusedVariables false
set_option linter.unusedSimpArgs false


theorem infoLine : (Tryd.prog.info? 69).map (fun i => (i.zero, i.size, i.bytes)) = some (some (.agg #[.int .i64 0, .int .i64 0, .int .i64 0]), 3, 24) := by kernel_rfl

/-- Lines as a row of cells. -/
def lnCells : List Ln → List Value
  | [] => []
  | l :: ls => .int .i64 l.p :: .int .i64 l.c :: .int .i64 l.a :: lnCells ls
theorem lnCells_len : ∀ ls : List Ln, (lnCells ls).length = ls.length * 3
  | [] => rfl
  | l :: ls => by simp [lnCells, lnCells_len ls]; omega
theorem lnCells_get : ∀ (ls : List Ln) (i : Nat), i < ls.length → (lnCells ls)[i * 3]? = some (.int .i64 (Ln.at ls i).p) ∧ (lnCells ls)[i * 3 + 1]? = some (.int .i64 (Ln.at ls i).c) ∧ (lnCells ls)[i * 3 + 2]? = some (.int .i64 (Ln.at ls i).a)
  | [], i, h => absurd h (by simp)
  | l :: ls, 0, _ => ⟨rfl, rfl, rfl⟩
  | l :: ls, i + 1, h => by
    have := lnCells_get ls i (by simpa using h)
    rw [show (i + 1) * 3 = i * 3 + 1 + 1 + 1 from by omega]
    exact this
theorem lnCells_one : ∀ (ls : List Ln), ∀ u ∈ lnCells ls, u.oneCell' = true
  | [], u, h => by simp [lnCells] at h
  | l :: ls, u, h => by
    simp only [lnCells, List.mem_cons] at h
    rcases h with rfl | rfl | rfl | h
    · rfl
    · rfl
    · rfl
    · exact lnCells_one ls u h
theorem at_three (i : Nat) : ∃ k j, i = k * 3 + j ∧ j < 3 := ⟨i / 3, i % 3, by omega, by omega⟩
/-- Lines in memory, cell by cell. -/
theorem LnAt.cells {w : World} {a : Option Addr} {ls : List Ln} (h : LnAt w a ls) {x : Addr} (hx : a = some x) : ∀ j u, (lnCells ls)[j]? = some u → w.cell? (x.add j) = some u := by
  intro j u hj
  obtain ⟨k, i, rfl, hi⟩ := at_three j
  have hk : k < ls.length := by
    have := (List.getElem?_eq_some_iff.1 hj).1
    rw [lnCells_len] at this
    omega
  obtain ⟨b, o, e, hc⟩ := h (by omega)
  rw [hx] at e
  cases e
  have g := lnCells_get ls k hk
  obtain ⟨c0, c1, c2⟩ := hc k hk
  rw [add_plain]
  rcases (show i = 0 ∨ i = 1 ∨ i = 2 from by omega) with rfl | rfl | rfl
  · rw [Nat.add_zero, g.1] at hj; cases hj; exact c0
  · rw [g.2.1] at hj; cases hj; exact c1
  · rw [g.2.2] at hj; cases hj; exact c2
theorem owned_lines {w : World} {base n : Nat} {v : Value} {ls : List Ln} (h : w.ownsRow base 69 3 v n (lnCells ls)) (hn : ls.length = n) :
    ∃ a cap, v = .slice a n cap ∧ (a = none → n = 0 ∧ cap = 0) ∧ LnAt w a ls ∧ (∀ x, a = some x → base ≤ x.block ∧ x.block < w.heap.size) := by
  subst hn
  obtain ⟨a, cap, rfl, g0, g1, g2, g3, g4⟩ := owned_parts h
  refine ⟨a, cap, rfl, g0, fun hl => ?_, g3⟩
  obtain ⟨b, o, rfl, hc⟩ := g4 (by omega)
  refine ⟨b, o, rfl, fun i hi => ?_⟩
  have g := lnCells_get ls i hi
  have k0 := hc (i * 3) (by omega)
  have k1 := hc (i * 3 + 1) (by omega)
  have k2 := hc (i * 3 + 2) (by omega)
  simp only [List.getD_eq_getElem?_getD] at k0 k1 k2
  rw [g.1] at k0
  rw [g.2.1] at k1
  rw [g.2.2] at k2
  exact ⟨k0, k1, k2⟩

def CloneEnd (ls : List Ln) (w : World) (e : Ending) (w' : World) : Prop :=
  ∃ v, e = .returned v ∧ w'.ownsRow w.heap.size 69 3 v ls.length (lnCells ls) ∧ Below w.heap.size w w'

theorem clone_ok (a : Option Addr) (cap : Nat) (ls : List Ln) (w : World) (hx : LnAt w a ls) (hl : ls.length ≤ 1000000) (ha : a = none → ls.length = 0 ∧ cap = 0) :
    Calls Tryd.prog 40 #[.slice a ls.length cap] w (CloneEnd ls w) := by
  obtain ⟨i0, hi, hz0, hz1, hz2⟩ := info_parts infoLine
  have heq := fun (w : World) (a : Option Addr) (n c : Nat) => Lib.run_eql_slice_nil (P := Tryd.prog) w 24 69 a n c 0 0 Tryd.underlying24
  cases a with
  | none =>
    obtain ⟨h0, rfl⟩ := ha rfl
    have hls : ls = [] := List.length_eq_zero_iff.1 h0
    subst hls
    go_enter Tryd.func40, Tryd.ntmps40
    go_wp2
    go_ret
    exact ⟨_, rfl, World.ownsRow_nil _ _ _ _, Below.refl _ _⟩
  | some x =>
    have hc := Lib.hid hx
    clear hx ha
    go_enter Tryd.func40, Tryd.ntmps40
    go_wp2_with (at_builtin; refine wpList_append_own _ rfl _ _ 24 rfl w.heap.size 69 i0 _ 3 24 Tryd.underlying24 hi hz0 hz1 hz2 rfl (by decide) _ 0 [] rfl (World.ownsRow_lit _ #[] 0 (Nat.le_refl _) (by unfold maxLen; omega) rfl) x ls.length cap (lnCells ls) rfl (lnCells_len ls) (fun j u hj => (hc.out.after ((Below.refl _ _).alloc (Nat.le_refl _) _)).cells rfl j u hj) (lnCells_one ls) (by unfold maxLen; omega) (by omega) (by simp) ?_; intro v' w1 hown' hgrow _)
    rw [Nat.zero_add, List.nil_append] at hown'
    have hb : Below w.heap.size w w1 := ((Below.refl _ _).alloc (Nat.le_refl _) _).grown hgrow (by simp) (fun q e => by cases e; exact Nat.le_refl _)
    go_wp2_with fail
    go_ret
    exact ⟨_, rfl, hown', hb⟩

/-- A line, less than nought. -/
def Ln.neg (l : Ln) : Ln := ⟨l.p, l.c, -l.a⟩
/-- Lines, the first k of which are turned. -/
def turnK : List Ln → Nat → List Ln
  | [], _ => []
  | l :: ls, 0 => l :: ls
  | l :: ls, k + 1 => l.neg :: turnK ls k
theorem turnK_zero (ls : List Ln) : turnK ls 0 = ls := by cases ls <;> rfl
theorem turnK_len : ∀ (ls : List Ln) (k : Nat), (turnK ls k).length = ls.length
  | [], _ => rfl
  | l :: ls, 0 => rfl
  | l :: ls, k + 1 => by simp [turnK, turnK_len ls k]
theorem turnK_at : ∀ (ls : List Ln) (k : Nat), Ln.at (turnK ls k) k = Ln.at ls k
  | [], _ => rfl
  | l :: ls, 0 => rfl
  | l :: ls, k + 1 => turnK_at ls k
theorem turnK_succ : ∀ (ls : List Ln) (k : Nat), k < ls.length → (turnK ls k).set k (Ln.at ls k).neg = turnK ls (k + 1)
  | [], k, h => absurd h (by simp)
  | l :: ls, 0, _ => by show (l.neg :: ls) = l.neg :: turnK ls 0; rw [turnK_zero]
  | l :: ls, k + 1, h => by
    show l.neg :: (turnK ls k).set k (Ln.at ls k).neg = l.neg :: turnK ls (k + 1)
    rw [turnK_succ ls k (by simpa using h)]
theorem turnK_full : ∀ (ls : List Ln), turnK ls ls.length = ls.map Ln.neg
  | [] => rfl
  | l :: ls => by show l.neg :: turnK ls ls.length = l.neg :: ls.map Ln.neg; rw [turnK_full ls]
theorem lnCells_set : ∀ (ls : List Ln) (k : Nat) (x : Int), k < ls.length → (lnCells ls).set (k * 3 + 2) (.int .i64 x) = lnCells (ls.set k ⟨(Ln.at ls k).p, (Ln.at ls k).c, x⟩)
  | [], k, x, h => absurd h (by simp)
  | l :: ls, 0, x, _ => rfl
  | l :: ls, k + 1, x, h => by
    rw [show (k + 1) * 3 + 2 = (k * 3 + 2) + 1 + 1 + 1 from by omega]
    show .int .i64 l.p :: .int .i64 l.c :: .int .i64 l.a :: (lnCells ls).set (k * 3 + 2) (.int .i64 x) = _
    rw [lnCells_set ls k x (by simpa using h)]
    rfl
theorem turn_cells (ls : List Ln) (k : Nat) (h : k < ls.length) : (lnCells (turnK ls k)).set (k * 3 + 2) (.int .i64 (-(Ln.at ls k).a)) = lnCells (turnK ls (k + 1)) := by
  rw [lnCells_set _ _ _ (by rw [turnK_len]; exact h), turnK_at, ← turnK_succ ls k h]
  rfl

def TurnedEnd (ls : List Ln) (w : World) (e : Ending) (w' : World) : Prop :=
  ∃ c cap, e = .returned (.slice c ls.length cap) ∧ (c = none → ls.length = 0 ∧ cap = 0) ∧ LnAt w' c (ls.map Ln.neg) ∧ (∀ x, c = some x → w.heap.size ≤ x.block ∧ x.block < w'.heap.size) ∧ Below w.heap.size w w'

set_option maxHeartbeats 1000000 in
theorem turned_ok (a : Option Addr) (cap : Nat) (ls : List Ln) (w : World) (hx : LnAt w a ls) (hl : ls.length ≤ 1000000) (ha : a = none → ls.length = 0 ∧ cap = 0) (hm : ∀ l ∈ ls, -9223372036854775807 ≤ l.a ∧ l.a ≤ 9223372036854775807) :
    Calls Tryd.prog 23 #[.slice a ls.length cap] w (TurnedEnd ls w) := by
  have HX := Lib.hid hx
  have HM := Lib.hid hm
  clear hx hm
  go_enter Tryd.func23, Tryd.ntmps23
  go_wp2_with fail
  refine (clone_ok a cap ls _ HX.out hl ha).mono ?_
  rintro e w1 ⟨v, rfl, hown, hb1⟩
  obtain ⟨c, capc, rfl, g0, g1, g2, g3, g4⟩ := owned_parts hown
  have G0 := Lib.hid g0
  clear g0 g1 g2 g3 g4 ha
  go_wp2_with fail
  go_loopw [4, 9] (fun _ i wr => ∃ k : Nat, k ≤ ls.length ∧ i = .int .i64 k ∧ wr.ownsRow w.heap.size 69 3 (.slice c ls.length capc) ls.length (lnCells (turnK ls k)) ∧ Below w.heap.size w wr) (fun _ i _ => ls.length - (intOf i).toNat)
  case atStart => exact ⟨0, by omega, rfl, by rw [turnK_zero]; exact hown, hb1⟩
  case round =>
    obtain ⟨k, hk, rfl, hro, hbl⟩ := hrel
    by_cases hlt : k < ls.length
    · have hro' := hro
      rw [← turnK_len ls k] at hro'
      have hln : LnAt wr c (turnK ls k) := by
        obtain ⟨c', cap', e, _, h3, _⟩ := owned_lines hro (turnK_len ls k)
        cases e
        exact h3
      obtain ⟨g, rfl⟩ : ∃ g, c = some ⟨g, 0, none⟩ := by
        rcases hro.2 with ⟨e, h0⟩ | ⟨g, _, _, e, _⟩
        · omega
        · cases e; exact ⟨g, rfl⟩
      obtain ⟨b, o, e, hc⟩ := hln (by rw [turnK_len]; omega)
      cases e
      have hck := (hc k (by rw [turnK_len]; exact hlt)).2.2
      rw [turnK_at] at hck
      simp only [Nat.zero_add] at hck
      have hfz := hro.frozenAt (k * 3 + 2)
      have hst := (hro.stored (k * 3 + 2) (.int .i64 (-(Ln.at ls k).a))).1
      rw [turn_cells ls k hlt] at hst
      have hgb : w.heap.size ≤ g := by
        rcases hro.2 with ⟨e, _⟩ | ⟨g', _, _, e, h, _⟩
        · cases e
        · cases e; exact h
      have hmk := HM.out (Ln.at ls k) (by unfold Ln.at; rw [List.getD_eq_getElem?_getD, List.getElem?_eq_getElem hlt]; simp)
      obtain ⟨m1, m2⟩ := hmk
      have i1 : (0 : Int) ≤ (k : Int) := by omega
      have i2 : (k : Int) < (ls.length : Int) := by omega
      clear hro hln hc hown
      go_wp2_with fail
      go_roundw
      case rel => exact ⟨k + 1, by omega, by go_num, hst, hbl.setCell (p := ⟨g, k * 3 + 2, none⟩) hgb _⟩
      case measure => simp [intOf]; omega
    · obtain rfl : k = ls.length := by omega
      rw [turnK_full] at hro
      have hlen : (ls.map Ln.neg).length = ls.length := by simp
      obtain ⟨c', cap', e, _, h3, h4⟩ := owned_lines hro hlen
      cases e
      have H3 := Lib.hid h3
      have H4 := Lib.hid h4
      clear hro hown hlen h3 h4
      go_wp2_with fail
      go_ret
      exact ⟨c, capc, rfl, G0.out, H3.out, H4.out, hbl⟩

end Go.Proofs.YtmjgcenhgpkhiaaDoor
namespace Go.Proofs.YtmjgcenhgpkhiaaDoor
open Go.RowKit
set_option linter.unusedVariables false
set_option linter.unusedSimpArgs false

deriving instance DecidableEq for Ln

theorem three_eq (p c a p' c' a' : Int) (w : World) (T : TypeId) (fs : Array Field) (hs : Tryd.prog.underlying T = some (.struct fs)) (hh : Tryd.prog.stoodInHeld T = false)
    (hf : fs.toList.map (fun f => (f.type, f.offset, decide (f.name = "_"))) = [(3, 0, false), (3, 1, false), (3, 2, false)]) :
    (Op.equalIn 10000 T (.agg #[.int .i64 p, .int .i64 c, .int .i64 a]) (.agg #[.int .i64 p', .int .i64 c', .int .i64 a'])).run Tryd.prog w = .ok (decide ((⟨p, c, a⟩ : Ln) = ⟨p', c', a'⟩)) w := by
  have hi : Tryd.prog.underlying 3 = some (.int .i64) := by kernel_rfl
  have hfs : Tryd.prog.fieldsOf T = fs := by unfold Program.fieldsOf; rw [hs]
  rw [run_equalIn_agg w 9999 _ _ _ (by rw [hfs]; exact hs) hh, hfs]
  have q0 : ∀ x y z : Int, (part 3 #[.int .i64 x, .int .i64 y, .int .i64 z] 0).run Tryd.prog w = .ok (.int .i64 x) w := fun x y z => by kernel_rfl
  have q1 : ∀ x y z : Int, (part 3 #[.int .i64 x, .int .i64 y, .int .i64 z] 1).run Tryd.prog w = .ok (.int .i64 y) w := fun x y z => by kernel_rfl
  have q2 : ∀ x y z : Int, (part 3 #[.int .i64 x, .int .i64 y, .int .i64 z] 2).run Tryd.prog w = .ok (.int .i64 z) w := fun x y z => by kernel_rfl
  obtain ⟨f, g, h, hl⟩ : ∃ f g h, fs.toList = [f, g, h] := by
    have := congrArg List.length hf
    revert this
    generalize fs.toList = l
    intro this
    match l, this with
    | [f, g, h], _ => exact ⟨f, g, h, rfl⟩
  rw [hl] at hf ⊢
  · simp only [List.map_cons, List.map_nil, List.cons.injEq, Prod.mk.injEq, decide_eq_false_iff_not, and_true] at hf
    obtain ⟨⟨f1, f2, f3⟩, ⟨g1, g2, g3⟩, ⟨h1, h2, h3⟩⟩ := hf
    by_cases e1 : p = p' <;> by_cases e2 : c = c' <;> by_cases e3 : a = a' <;>
      simp [Op.eqFields, f1, f2, f3, g1, g2, g3, h1, h2, h3, Sem.run_bind, q0, q1, q2, run_equalIn_int w 9998 _ .i64 .i64 _ _ hi, e1, e2, e3]

theorem line_ne (p c a p' c' a' : Int) (w : World) : (binOp .neq 69 (.agg #[.int .i64 p, .int .i64 c, .int .i64 a]) (.agg #[.int .i64 p', .int .i64 c', .int .i64 a'])).run Tryd.prog w = .ok (.bool (!decide ((⟨p, c, a⟩ : Ln) = ⟨p', c', a'⟩))) w := by
  rw [run_neq_struct, three_eq p c a p' c' a' w _ _ Tryd.underlying69 (by kernel_rfl) rfl]
  rfl
theorem tag_eq (p c a p' c' a' : Int) (w : World) : (binOp .eql 23 (.agg #[.int .i64 p, .int .i64 c, .int .i64 a]) (.agg #[.int .i64 p', .int .i64 c', .int .i64 a'])).run Tryd.prog w = .ok (.bool (decide ((⟨p, c, a⟩ : Ln) = ⟨p', c', a'⟩))) w := by
  rw [run_eql_struct, three_eq p c a p' c' a' w _ _ Tryd.underlying23 (by kernel_rfl) rfl]
  rfl

theorem at_eq_list : ∀ (xs ys : List Ln), xs.length = ys.length → (∀ j, j < xs.length → Ln.at xs j = Ln.at ys j) → xs = ys
  | [], [], _, _ => rfl
  | [], y :: ys, h, _ => by simp at h
  | x :: xs, [], h, _ => by simp at h
  | x :: xs, y :: ys, h, g => by
    have h0 : x = y := g 0 (by simp)
    rw [h0, at_eq_list xs ys (by simpa using h) fun j hj => g (j + 1) (by simpa using hj)]

set_option maxHeartbeats 1000000 in
theorem equal_ok (a b : Option Addr) (ca cb : Nat) (xs ys : List Ln) (w : World) (hx : LnAt w a xs) (hy : LnAt w b ys) (hl : xs.length ≤ 1000000) (hm : ys.length ≤ 1000000) :
    Calls Tryd.prog 26 #[.slice a xs.length ca, .slice b ys.length cb] w fun e w' => e = .returned (.bool (decide (xs = ys))) ∧ Below w.heap.size w w' := by
  by_cases hn : xs.length = ys.length
  · have hxy := Lib.hid (at_eq_list xs ys hn)
    obtain ⟨n, hN⟩ : ∃ n, ys.length = n := ⟨_, rfl⟩
    rw [hn, hN]
    rw [hn, hN] at hl hxy
    have HN := Lib.hid hn
    have HN2 := Lib.hid hN
    clear hn hN hm
    go_enter Tryd.func26, Tryd.ntmps26
    go_wp2_with fail
    go_loopw [5, 13] (fun _ i wr => ∃ k : Nat, k ≤ n ∧ i = .int .i64 k ∧ (∀ j, j < k → Ln.at xs j = Ln.at ys j) ∧ Below w.heap.size w wr) (fun _ i _ => n - (intOf i).toNat)
    case atStart => exact ⟨0, by omega, rfl, fun j hj => absurd hj (by omega), Below.refl _ _⟩
    case round =>
      obtain ⟨k, hk, rfl, hall, hbl⟩ := hrel
      have HA := Lib.hid hall
      clear hall
      by_cases hlt : k < n
      · obtain ⟨ba, oa, rfl, hca⟩ := hx.after hbl (by have := HN.out; have := HN2.out; omega)
        obtain ⟨bb, ob, rfl, hcb⟩ := hy.after hbl (by have := HN2.out; omega)
        obtain ⟨c0, c1, c2⟩ := hca k (by have := HN.out; have := HN2.out; omega)
        obtain ⟨d0, d1, d2⟩ := hcb k (by have := HN2.out; omega)
        have i1 : (0 : Int) ≤ (k : Int) := by omega
        have i2 : (k : Int) < (n : Int) := by omega
        have hne := line_ne (Ln.at xs k).p (Ln.at xs k).c (Ln.at xs k).a (Ln.at ys k).p (Ln.at ys k).c (Ln.at ys k).a
        clear hca hcb hx hy
        by_cases he : Ln.at xs k = Ln.at ys k
        · have HE := Lib.hid he
          have h1 : decide ((⟨(Ln.at xs k).p, (Ln.at xs k).c, (Ln.at xs k).a⟩ : Ln) = ⟨(Ln.at ys k).p, (Ln.at ys k).c, (Ln.at ys k).a⟩) = true := by rw [decide_eq_true_iff]; exact he
          rw [h1] at hne
          clear he h1
          go_wp2_with (go_quiet (fail))
          go_roundw
          case rel => exact ⟨k + 1, by omega, by go_num, fun j hj => by
            rcases Nat.lt_or_ge j k with g | g
            · exact HA.out j g
            · obtain rfl : j = k := by omega
              exact HE.out, hbl.trans (below_draws _ _)⟩
          case measure => simp [intOf]; omega
        · have HE := Lib.hid he
          have h1 : decide ((⟨(Ln.at xs k).p, (Ln.at xs k).c, (Ln.at xs k).a⟩ : Ln) = ⟨(Ln.at ys k).p, (Ln.at ys k).c, (Ln.at ys k).a⟩) = false := by rw [decide_eq_false_iff_not]; exact he
          rw [h1] at hne
          clear he h1
          go_wp2_with (go_quiet (fail))
          go_ret
          exact ⟨ret_bool (by rw [eq_comm, decide_eq_false_iff_not]; exact fun h => HE.out (by rw [h])), hbl.trans (below_draws _ _)⟩
      · obtain rfl : k = n := by omega
        go_wp2_with fail
        go_ret
        exact ⟨ret_bool (by rw [eq_comm, decide_eq_true_iff]; exact hxy.out HA.out), hbl⟩
  · have h1 : (xs.length : Int) ≠ (ys.length : Int) := by omega
    have HN := Lib.hid hn
    clear hn
    go_enter Tryd.func26, Tryd.ntmps26
    go_wp2_with fail
    go_ret
    exact ⟨ret_bool (by rw [eq_comm, decide_eq_false_iff_not]; exact fun h => HN.out (by rw [h])), Below.refl _ _⟩

end Go.Proofs.YtmjgcenhgpkhiaaDoor
namespace Go.Proofs.YtmjgcenhgpkhiaaDoor
open Go.RowKit
set_option linter.unusedVariables false
set_option maxRecDepth 100000
set_option linter.unusedSimpArgs false

/-- An entry's first three numbers. -/
def Six.tag (s : Six) : Ln := ⟨s.con, s.day, s.cur⟩
def zero6 : Six := ⟨0, 0, 0, 0, 0, 0⟩

set_option maxHeartbeats 1000000 in
theorem same_zero (w : World) : Calls Tryd.prog 12 #[entV zero6 none 0 0, entV zero6 none 0 0] w fun e w' => e = .returned (.bool true) ∧ Below w.heap.size w w' := by
  unfold entV zero6
  have ht := tag_eq 0 0 0 0 0 0
  rw [show decide ((⟨0, 0, 0⟩ : Ln) = ⟨0, 0, 0⟩) = true from rfl] at ht
  go_enter Tryd.func12, Tryd.ntmps12
  go_wp2_with fail
  refine (equal_ok none none 0 0 [] [] _ (fun h => absurd h (by simp)) (fun h => absurd h (by simp)) (by simp) (by simp)).mono ?_
  rintro e w1 ⟨rfl, hb1⟩
  go_wp2_with fail
  go_ret
  exact ⟨rfl, (((Below.refl _ _).alloc (Nat.le_refl _) _).alloc (by simp) _).trans (hb1.mono (by simp; omega))⟩

set_option maxHeartbeats 1000000 in
theorem mirrors_ok (s t : Six) (a b : Option Addr) (ca cb : Nat) (xs ys : List Ln) (w : World) (htag : s.tag = t.tag) (hx : LnAt w a xs) (hy : LnAt w b ys) (hl : xs.length ≤ 1000000) (hm : ys.length ≤ 1000000)
    (ha : a = none → xs.length = 0 ∧ ca = 0) (hmin : ∀ l ∈ xs, -9223372036854775807 ≤ l.a ∧ l.a ≤ 9223372036854775807) :
    Calls Tryd.prog 63 #[entV s a xs.length ca, entV t b ys.length cb] w fun e w' => e = .returned (.bool (decide (xs.map Ln.neg = ys))) ∧ Below w.heap.size w w' := by
  have ht := tag_eq s.con s.day s.cur t.con t.day t.cur
  rw [show decide ((⟨s.con, s.day, s.cur⟩ : Ln) = ⟨t.con, t.day, t.cur⟩) = true from by rw [decide_eq_true_iff]; exact htag] at ht
  unfold entV
  obtain ⟨wa, hwa⟩ : ∃ wa, w.alloc (.cells (entCs s a xs.length ca) 26) = wa := ⟨_, rfl⟩
  have hba : Below w.heap.size w wa := by rw [← hwa]; exact (Below.refl _ _).alloc (Nat.le_refl _) _
  have hza : wa.heap.size = w.heap.size + 1 := by rw [← hwa]; simp
  have box1 : EBox wa w.heap.size s a xs.length ca := by rw [← hwa]; exact EBox.new _ _ _ _ _ _
  obtain ⟨wb, hwb⟩ : ∃ wb, wa.alloc (.cells (entCs t b ys.length cb) 26) = wb := ⟨_, rfl⟩
  have hbb : Below wa.heap.size wa wb := by rw [← hwb]; exact (Below.refl _ _).alloc (Nat.le_refl _) _
  have hzb : wb.heap.size = wa.heap.size + 1 := by rw [← hwb]; simp
  have box2 : EBox wb wa.heap.size t b ys.length cb := by rw [← hwb]; exact EBox.new _ _ _ _ _ _
  have hbw : Below w.heap.size w wb := hba.trans (hbb.mono (by omega))
  have box1' := box1.after hbb
  have HX := Lib.hid (hx.after hbw)
  have HY := Lib.hid (hy.after hbw)
  have HZA := Lib.hid hza
  have HZB := Lib.hid hzb
  have HM := Lib.hid hmin
  unfold entCs at hwa hwb
  clear hx hy htag hza hzb hmin
  go_enter Tryd.func63, Tryd.ntmps63
  go_wp2_with fail
  have hlen : (xs.map Ln.neg).length = xs.length := by simp
  have B1 := Lib.hid box1'
  have B2 := Lib.hid box2
  obtain ⟨p0, p1, p2, _, _, _, p6⟩ := id box1'
  obtain ⟨q0, q1, q2, _, _, _, q6⟩ := id box2
  clear hwa hwb box1 box1' box2
  go_region_held3 (fun w' => w'.cell? ⟨w.heap.size, 0, none⟩ = some (.int .i64 s.con) ∧ w'.cell? ⟨w.heap.size, 1, none⟩ = some (.int .i64 s.day) ∧ w'.cell? ⟨w.heap.size, 2, none⟩ = some (.int .i64 s.cur) ∧ w'.cell? ⟨w.heap.size, 6, none⟩ = some (.slice a xs.length ca)
      ∧ w'.cell? ⟨wa.heap.size, 0, none⟩ = some (.int .i64 t.con) ∧ w'.cell? ⟨wa.heap.size, 1, none⟩ = some (.int .i64 t.day) ∧ w'.cell? ⟨wa.heap.size, 2, none⟩ = some (.int .i64 t.cur) ∧ w'.cell? ⟨wa.heap.size, 6, none⟩ = some (.slice b ys.length cb) ∧ Below wb.heap.size wb w')
    (first | exact ⟨(B1.out.after hbY).c0, (B1.out.after hbY).c1, (B1.out.after hbY).c2, (B1.out.after hbY).c6, (B2.out.after hbY).c0, (B2.out.after hbY).c1, (B2.out.after hbY).c2, (B2.out.after hbY).c6, hbY⟩
            | exact ⟨(B1.out.after hbX).c0, (B1.out.after hbX).c1, (B1.out.after hbX).c2, (B1.out.after hbX).c6, (B2.out.after hbX).c0, (B2.out.after hbX).c1, (B2.out.after hbX).c2, (B2.out.after hbX).c6, hbX⟩
            | (have hbX := (Below.refl wb.heap.size wb).drew; exact ⟨(B1.out.after hbX).c0, (B1.out.after hbX).c1, (B1.out.after hbX).c2, (B1.out.after hbX).c6, (B2.out.after hbX).c0, (B2.out.after hbX).c1, (B2.out.after hbX).c2, (B2.out.after hbX).c6, hbX⟩))
    (first | (go_at_call 23; refine (turned_ok a ca xs _ (HX.out.after (Below.refl wb.heap.size wb).drew) hl ha HM.out).mono ?_; rintro e w1 ⟨c, cc, rfl, g0, g1, g2, hb1⟩; have hbX : Below wb.heap.size wb w1 := (Below.refl _ _).drew.trans hb1)
            | (go_at_call 26; have hq := equal_ok c b cc cb (xs.map Ln.neg) ys w1 g1 (HY.out.after hbX) (by rw [hlen]; exact hl) hm; rw [hlen] at hq; refine hq.mono ?_; rintro e w2 ⟨rfl, hb2⟩; have hbY : Below wb.heap.size wb w2 := hbX.trans (hb2.mono hbX.size)))
  go_wp2_with fail
  go_ret
  exact ⟨rfl, hbw.trans (hbY.mono (by have := HZA.out; have := HZB.out; omega))⟩

end Go.Proofs.YtmjgcenhgpkhiaaDoor
