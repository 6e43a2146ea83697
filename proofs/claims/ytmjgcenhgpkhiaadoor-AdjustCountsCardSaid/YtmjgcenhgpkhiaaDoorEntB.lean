/- Package entry: the five rules of an entry. -/
import Derived.Test.YtmjgcenhgpkhiaaDoorEntA
import Derived.Test.YtmjgcenhgpkhiaaDoorASum
namespace Go.Proofs.YtmjgcenhgpkhiaaDoor
open Go.RowKit
set_option linter.unusedVariables false
set_option maxRecDepth 100000
set_option linter.unusedSimpArgs false


theorem tests_ranges (w : World) : Tests w 118 #[] (fun l => !lineOk l) := by
  intro p c a w1 hb
  show Calls Tryd.prog 118 #[.agg #[.int .i64 p, .int .i64 c, .int .i64 a]] w1 _
  unfold lineOk
  cases h : belowB p 16 && belowB c 8
  all_goals
    have H := Lib.hid h
    clear h
    go_enter Tryd.func118, Tryd.ntmps118
    go_wp2_with fail
    refine (line_may p c a _).mono ?_
    rintro e w2 ⟨rfl, hb2⟩
    rw [H.out]
    go_wp2_with fail
    go_ret
    exact ⟨ret_bool (by show _ = !(belowB p 16 && belowB c 8); rw [H.out]; rfl), ((Below.refl _ _).alloc (Nat.le_refl _) _).trans (hb2.mono (by simp))⟩

theorem tests_lines (w : World) (B : Nat) (cur : Int) (hc : w.cell? ⟨B, 2, none⟩ = some (.int .i64 cur)) : Tests w 119 #[.pointer (some ⟨B, 0, none⟩)] (fun l => l.c != cur) := by
  intro p c a w1 hb
  show Calls Tryd.prog 119 #[.agg #[.int .i64 p, .int .i64 c, .int .i64 a], .pointer (some ⟨B, 0, none⟩)] w1 _
  have hc1 := below_cell hb hc
  have hc2 := below_cell (w' := w1.alloc (.cells #[.int .i64 p, .int .i64 c, .int .i64 a] 69)) ((Below.refl _ _).alloc (Nat.le_refl _) _) hc1
  clear hc hc1
  go_enter Tryd.func119, Tryd.ntmps119
  go_wp2_with fail
  go_ret
  exact ⟨rfl, (Below.refl _ _).alloc (Nat.le_refl _) _⟩

theorem tests_some (w : World) : Tests w 120 #[] (fun l => l.a == 0) := by
  intro p c a w1 hb
  show Calls Tryd.prog 120 #[.agg #[.int .i64 p, .int .i64 c, .int .i64 a]] w1 _
  go_enter Tryd.func120, Tryd.ntmps120
  go_wp2_with fail
  go_ret
  exact ⟨rfl, (Below.refl _ _).alloc (Nat.le_refl _) _⟩

theorem tests_fits (w : World) : Tests w 121 #[] (fun l => l.a == -9223372036854775808) := by
  intro p c a w1 hb
  show Calls Tryd.prog 121 #[.agg #[.int .i64 p, .int .i64 c, .int .i64 a]] w1 _
  go_enter Tryd.func121, Tryd.ntmps121
  go_wp2_with fail
  go_ret
  exact ⟨rfl, (Below.refl _ _).alloc (Nat.le_refl _) _⟩

/-- An entry's six numbers. -/
structure Six where
  con : Int
  day : Int
  cur : Int
  seq : Int
  per : Int
  ref : Int
def entV (s : Six) (a : Option Addr) (n cap : Nat) : Value := .agg #[.int .i64 s.con, .int .i64 s.day, .int .i64 s.cur, .int .i64 s.seq, .int .i64 s.per, .int .i64 s.ref, .slice a n cap]
def entCs (s : Six) (a : Option Addr) (n cap : Nat) : Array Value := #[.int .i64 s.con, .int .i64 s.day, .int .i64 s.cur, .int .i64 s.seq, .int .i64 s.per, .int .i64 s.ref, .slice a n cap]

/-- The five rules. -/
def rangesB (s : Six) (ls : List Ln) : Bool := tagOk s.con s.day s.cur && !(ls.any fun l => !lineOk l) && decide (0 ≤ s.seq) && decide (0 ≤ s.per) && decide (-1 ≤ s.ref)
def linesB (s : Six) (ls : List Ln) : Bool := decide (2 ≤ ls.length) && decide (ls.length ≤ 8) && !(ls.any fun l => l.c != s.cur)
def someB (ls : List Ln) : Bool := !(ls.any fun l => l.a == 0)
def fitsB (ls : List Ln) : Bool := !(ls.any fun l => l.a == -9223372036854775808)
def evenB (ls : List Ln) : Bool := decide ((ls.map Ln.a).sum = 0)

theorem some_ok (s : Six) (a : Option Addr) (cap : Nat) (ls : List Ln) (w : World) (hx : LnAt w a ls) (hl : ls.length ≤ 1000000) :
    Calls Tryd.prog 115 #[entV s a ls.length cap] w fun e w' => e = .returned (.bool (someB ls)) ∧ Below w.heap.size w w' := by
  unfold entV
  have hx2 := Lib.hid (hx.after (w' := w.alloc (.cells (entCs s a ls.length cap) 26)) ((Below.refl _ _).alloc (Nat.le_refl _) _))
  unfold entCs at hx2
  clear hx
  go_enter Tryd.func115, Tryd.ntmps115
  go_wp2_with fail
  refine (contains_some a cap ls _ _ hx2.out (tests_some _) hl).mono ?_
  rintro e w2 ⟨rfl, hb2⟩
  go_wp2_with fail
  go_ret
  exact ⟨ret_bool rfl, ((Below.refl _ _).alloc (Nat.le_refl _) _).trans (hb2.mono (by simp))⟩

theorem fits_ok (s : Six) (a : Option Addr) (cap : Nat) (ls : List Ln) (w : World) (hx : LnAt w a ls) (hl : ls.length ≤ 1000000) :
    Calls Tryd.prog 116 #[entV s a ls.length cap] w fun e w' => e = .returned (.bool (fitsB ls)) ∧ Below w.heap.size w w' := by
  unfold entV
  have hx2 := Lib.hid (hx.after (w' := w.alloc (.cells (entCs s a ls.length cap) 26)) ((Below.refl _ _).alloc (Nat.le_refl _) _))
  unfold entCs at hx2
  clear hx
  go_enter Tryd.func116, Tryd.ntmps116
  go_wp2_with fail
  refine (contains_fits a cap ls _ _ hx2.out (tests_fits _) hl).mono ?_
  rintro e w2 ⟨rfl, hb2⟩
  go_wp2_with fail
  go_ret
  exact ⟨ret_bool rfl, ((Below.refl _ _).alloc (Nat.le_refl _) _).trans (hb2.mono (by simp))⟩

/-- An entry in a block of its own. -/
structure EBox (w : World) (B : Nat) (s : Six) (a : Option Addr) (n cap : Nat) : Prop where
  c0 : w.cell? ⟨B, 0, none⟩ = some (.int .i64 s.con)
  c1 : w.cell? ⟨B, 1, none⟩ = some (.int .i64 s.day)
  c2 : w.cell? ⟨B, 2, none⟩ = some (.int .i64 s.cur)
  c3 : w.cell? ⟨B, 3, none⟩ = some (.int .i64 s.seq)
  c4 : w.cell? ⟨B, 4, none⟩ = some (.int .i64 s.per)
  c5 : w.cell? ⟨B, 5, none⟩ = some (.int .i64 s.ref)
  c6 : w.cell? ⟨B, 6, none⟩ = some (.slice a n cap)
theorem EBox.grown {w w' : World} {row : Option Nat} {B : Nat} {s : Six} {a : Option Addr} {n cap : Nat} (h : EBox w B s a n cap) (hg : w.grownBy w' row) (hr : row ≠ some B) : EBox w' B s a n cap :=
  ⟨grown_cell hg h.c0 hr, grown_cell hg h.c1 hr, grown_cell hg h.c2 hr, grown_cell hg h.c3 hr, grown_cell hg h.c4 hr, grown_cell hg h.c5 hr, grown_cell hg h.c6 hr⟩
theorem EBox.after {w w' : World} {B : Nat} {s : Six} {a : Option Addr} {n cap : Nat} (h : EBox w B s a n cap) (hb : Below w.heap.size w w') : EBox w' B s a n cap := h.grown (below_row hb none) (by simp)
theorem EBox.new (w : World) (s : Six) (a : Option Addr) (n cap : Nat) (t : TypeId) : EBox (w.alloc (.cells (entCs s a n cap) t)) w.heap.size s a n cap := by
  unfold entCs
  exact ⟨by go_simp, by go_simp, by go_simp, by go_simp, by go_simp, by go_simp, by go_simp⟩


set_option maxHeartbeats 1000000 in
theorem ranges_ok (s : Six) (a : Option Addr) (cap : Nat) (ls : List Ln) (w : World) (hx : LnAt w a ls) (hl : ls.length ≤ 1000000) :
    Calls Tryd.prog 113 #[entV s a ls.length cap] w fun e w' => e = .returned (.bool (rangesB s ls)) ∧ Below w.heap.size w w' := by
  unfold entV
  obtain ⟨wa, hwa⟩ : ∃ wa, w.alloc (.cells (entCs s a ls.length cap) 26) = wa := ⟨_, rfl⟩
  have hba : Below w.heap.size w wa := by rw [← hwa]; exact (Below.refl _ _).alloc (Nat.le_refl _) _
  have hza : wa.heap.size = w.heap.size + 1 := by rw [← hwa]; simp
  have hx2 := Lib.hid (hx.after hba)
  have hbox : EBox wa w.heap.size s a ls.length cap := by rw [← hwa]; exact EBox.new _ _ _ _ _ _
  unfold entCs at hwa
  have HZA := Lib.hid hza
  clear hx hza
  have HB : Hid (rangesB s ls = (tagOk s.con s.day s.cur && !(ls.any fun l => !lineOk l) && decide (0 ≤ s.seq) && decide (0 ≤ s.per) && decide (-1 ≤ s.ref))) := rfl
  obtain ⟨q0, q1, q2, q3, q4, q5, q6⟩ := id hbox
  go_enter Tryd.func113, Tryd.ntmps113
  go_wp2_with fail
  try rw [hwa]
  clear hwa q0 q1 q2 q3 q4 q5 q6
  refine (contains_ranges a cap ls _ _ hx2.out (tests_ranges _) hl).mono ?_
  rintro e w2 ⟨rfl, hb2⟩
  have hbx := hbox.after hb2
  obtain ⟨q0, q1, q2, q3, q4, q5, q6⟩ := id hbx
  obtain ⟨A, hA⟩ : ∃ A, (ls.any fun l => !lineOk l) = A := ⟨_, rfl⟩
  rw [hA]
  rw [hA] at HB
  clear hA hbox hx2
  go_wp2_with fail
  refine (tag_may s.con s.day s.cur _).mono ?_
  rintro e w3 ⟨rfl, hb3⟩
  have hbx3 := hbx.after hb3
  clear q0 q1 q2 q3 q4 q5 q6
  obtain ⟨q0, q1, q2, q3, q4, q5, q6⟩ := id hbx3
  have hbe : Below w.heap.size w w3 := (hba.trans (hb2.mono (by have := HZA.out; omega))).trans (hb3.mono (by have := hb2.size; have := HZA.out; omega))
  obtain ⟨T, hT⟩ : ∃ T, tagOk s.con s.day s.cur = T := ⟨_, rfl⟩
  rw [hT]
  rw [hT] at HB
  clear hT hbx
  cases T
  · go_wp2_with fail
    go_ret
    exact ⟨ret_bool (by rw [HB.out]; rfl), hbe⟩
  · cases A
    · by_cases g1 : 0 ≤ s.seq
      · by_cases g2 : 0 ≤ s.per
        · go_wp2_with fail
          go_ret
          exact ⟨ret_bool (by rw [HB.out]; simp [g1, g2]), hbe⟩
        · go_wp2_with fail
          go_ret
          exact ⟨ret_bool (by rw [HB.out]; simp; omega), hbe⟩
      · go_wp2_with fail
        go_ret
        exact ⟨ret_bool (by rw [HB.out]; simp; omega), hbe⟩
    · go_wp2_with fail
      go_ret
      exact ⟨ret_bool (by rw [HB.out]; simp), hbe⟩

set_option maxHeartbeats 1000000 in
theorem lines_ok (s : Six) (a : Option Addr) (cap : Nat) (ls : List Ln) (w : World) (hx : LnAt w a ls) (hl : ls.length ≤ 1000000) :
    Calls Tryd.prog 114 #[entV s a ls.length cap] w fun e w' => e = .returned (.bool (linesB s ls)) ∧ Below w.heap.size w w' := by
  unfold entV
  obtain ⟨wa, hwa⟩ : ∃ wa, w.alloc (.cells (entCs s a ls.length cap) 26) = wa := ⟨_, rfl⟩
  have hba : Below w.heap.size w wa := by rw [← hwa]; exact (Below.refl _ _).alloc (Nat.le_refl _) _
  have hza : wa.heap.size = w.heap.size + 1 := by rw [← hwa]; simp
  have hx2 := Lib.hid (hx.after hba)
  have hbox : EBox wa w.heap.size s a ls.length cap := by rw [← hwa]; exact EBox.new _ _ _ _ _ _
  unfold entCs at hwa
  have HZA := Lib.hid hza
  clear hx hza
  have HB : Hid (linesB s ls = (decide (2 ≤ ls.length) && decide (ls.length ≤ 8) && !(ls.any fun l => l.c != s.cur))) := rfl
  obtain ⟨q0, q1, q2, q3, q4, q5, q6⟩ := id hbox
  go_enter Tryd.func114, Tryd.ntmps114
  go_wp2_with fail
  try rw [hwa]
  clear hwa q0 q1 q2 q3 q4 q5 q6
  refine (contains_lines a cap ls _ _ _ hx2.out (tests_lines _ _ _ hbox.c2) hl).mono ?_
  rintro e w2 ⟨rfl, hb2⟩
  have hbx := hbox.after hb2
  obtain ⟨q0, q1, q2, q3, q4, q5, q6⟩ := id hbx
  obtain ⟨A, hA⟩ : ∃ A, (ls.any fun l => l.c != s.cur) = A := ⟨_, rfl⟩
  rw [hA]
  rw [hA] at HB
  have hbe : Below w.heap.size w w2 := hba.trans (hb2.mono (by have := HZA.out; omega))
  clear hA hbox hx2
  by_cases g1 : 2 ≤ ls.length
  · by_cases g2 : ls.length ≤ 8
    · go_wp2_with fail
      go_ret
      exact ⟨ret_bool (by rw [HB.out]; simp [g1, g2]), hbe⟩
    · go_wp2_with fail
      go_ret
      exact ⟨ret_bool (by rw [HB.out]; simp; omega), hbe⟩
  · go_wp2_with fail
    go_ret
    exact ⟨ret_bool (by rw [HB.out]; simp; omega), hbe⟩

end Go.Proofs.YtmjgcenhgpkhiaaDoor
