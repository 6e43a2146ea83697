/- Package entry: below, may of tags and lines, ContainsFunc over an entry's lines. -/
import Derived.Test.YtmjgcenhgpkhiaaDoorRefA
namespace Go.Proofs.YtmjgcenhgpkhiaaDoor
open Go.RowKit
set_option linter.unusedVariables false
set_option linter.unusedSimpArgs false


/-- A line: party, currency, amount. -/
structure Ln where
  p : Int
  c : Int
  a : Int
instance : Inhabited Ln := ⟨⟨0, 0, 0⟩⟩
/-- A list's element. -/
def Ln.at (ls : List Ln) (i : Nat) : Ln := ls.getD i ⟨0, 0, 0⟩
def Ln.v (l : Ln) : Value := .agg #[.int .i64 l.p, .int .i64 l.c, .int .i64 l.a]
def Ln.wf (l : Ln) : Prop := (-9223372036854775808 ≤ l.p ∧ l.p ≤ 9223372036854775807) ∧ (-9223372036854775808 ≤ l.c ∧ l.c ≤ 9223372036854775807) ∧ (-9223372036854775808 ≤ l.a ∧ l.a ≤ 9223372036854775807)

/-- An entry's lines, where they lie. -/
def LnAt (w : World) (a : Option Addr) (ls : List Ln) : Prop :=
  0 < ls.length → ∃ b o, a = some ⟨b, o, none⟩ ∧ ∀ i, i < ls.length → w.cell? ⟨b, o + i * 3, none⟩ = some (.int .i64 (Ln.at ls i).p) ∧ w.cell? ⟨b, o + i * 3 + 1, none⟩ = some (.int .i64 (Ln.at ls i).c) ∧ w.cell? ⟨b, o + i * 3 + 2, none⟩ = some (.int .i64 (Ln.at ls i).a)
theorem LnAt.grown {w w' : World} {row : Option Nat} {a : Option Addr} {ls : List Ln} (h : LnAt w a ls) (hg : w.grownBy w' row) (hr : ∀ x, a = some x → row ≠ some x.block) : LnAt w' a ls := fun hl => by
  obtain ⟨b, o, e, hc⟩ := h hl
  have hr' := hr _ e
  exact ⟨b, o, e, fun i hi => ⟨grown_cell hg (hc i hi).1 hr', grown_cell hg (hc i hi).2.1 hr', grown_cell hg (hc i hi).2.2 hr'⟩⟩
theorem LnAt.after {w w' : World} {a : Option Addr} {ls : List Ln} (h : LnAt w a ls) (hb : Below w.heap.size w w') : LnAt w' a ls := h.grown (below_row hb none) (by simp)
theorem LnAt.lt {w : World} {a : Option Addr} {ls : List Ln} (h : LnAt w a ls) (hl : 0 < ls.length) : ∀ x, a = some x → x.block < w.heap.size := fun x e => by
  obtain ⟨b, o, e', hc⟩ := h hl
  rw [e] at e'
  cases e'
  exact World.block_lt_of_cell? w _ (hc 0 hl).1

/-- from 0 on, and below another number -/
def belowB (n m : Int) : Bool := decide (0 ≤ n ∧ n < m)
theorem below_ok (n m : Int) (w : World) : Calls Tryd.prog 25 #[.int .i64 n, .int .i64 m] w fun e w' => e = .returned (.bool (belowB n m)) ∧ w = w' := by
  by_cases h1 : 0 ≤ n
  · by_cases h2 : n < m
    · have e : belowB n m = true := by unfold belowB; rw [decide_eq_true_iff]; exact ⟨h1, h2⟩
      rw [e]; clear e
      go_enter Tryd.func25, Tryd.ntmps25
      go_wp2
      go_ret
      exact ⟨by simp, rfl⟩
    · have e : belowB n m = false := by unfold belowB; rw [decide_eq_false_iff_not]; exact fun h => h2 h.2
      rw [e]; clear e
      go_enter Tryd.func25, Tryd.ntmps25
      go_wp2
      go_ret
      exact ⟨by simp; try omega, rfl⟩
  · have e : belowB n m = false := by unfold belowB; rw [decide_eq_false_iff_not]; exact fun h => h1 h.1
    rw [e]; clear e
    go_enter Tryd.func25, Tryd.ntmps25
    go_wp2
    go_ret
    exact ⟨by simp; try omega, rfl⟩

/-- may a line be? -/
def lineOk (l : Ln) : Bool := belowB l.p 16 && belowB l.c 8
theorem line_may (p c a : Int) (w : World) : Calls Tryd.prog 111 #[.agg #[.int .i64 p, .int .i64 c, .int .i64 a]] w fun e w' => e = .returned (.bool (belowB p 16 && belowB c 8)) ∧ Below w.heap.size w w' := by
  cases h1 : belowB p 16 <;> have H1 := Lib.hid h1 <;> clear h1
  all_goals
    go_enter Tryd.func111, Tryd.ntmps111
    go_wp2_with fail
    refine (below_ok p 16 _).mono ?_
    rintro e w1 ⟨rfl, rfl⟩
    rw [H1.out]
    go_wp2_with (go_at_call 25; refine (below_ok c 8 _).mono ?_; rintro e w1 ⟨rfl, rfl⟩)
    go_ret
    exact ⟨by simp, (Below.refl _ _).alloc (Nat.le_refl _) _⟩

/-- may a tag be? -/
def tagOk (con day cur : Int) : Bool := belowB con 64 && belowB day 73049 && belowB cur 8
theorem tag_may (con day cur : Int) (w : World) : Calls Tryd.prog 24 #[.agg #[.int .i64 con, .int .i64 day, .int .i64 cur]] w fun e w' => e = .returned (.bool (tagOk con day cur)) ∧ Below w.heap.size w w' := by
  unfold tagOk
  cases h1 : belowB con 64 <;> have H1 := Lib.hid h1 <;> clear h1 <;> cases h2 : belowB day 73049 <;> have H2 := Lib.hid h2 <;> clear h2
  all_goals
    go_enter Tryd.func24, Tryd.ntmps24
    go_wp2_with fail
    refine (below_ok con 64 _).mono ?_
    rintro e w1 ⟨rfl, rfl⟩
    rw [H1.out]
    go_wp2_with fail
    try (refine (below_ok day 73049 _).mono ?_; rintro e w1 ⟨rfl, rfl⟩; rw [H2.out])
    go_wp2_with (go_at_call 25; refine (below_ok cur 8 _).mono ?_; rintro e w1 ⟨rfl, rfl⟩)
    go_ret
    exact ⟨by simp, (Below.refl _ _).alloc (Nat.le_refl _) _⟩

theorem any_first (ls : List Ln) (q : Ln → Bool) (k : Nat) (hk : k < ls.length) (h : q (Ln.at ls k) = true) : ls.any q = true := by
  rw [List.any_eq_true]
  exact ⟨Ln.at ls k, by unfold Ln.at; rw [List.getD_eq_getElem?_getD, List.getElem?_eq_getElem hk]; simp, h⟩
theorem any_none (ls : List Ln) (q : Ln → Bool) (h : ∀ j, j < ls.length → q (Ln.at ls j) = false) : ls.any q = false := by
  rw [List.any_eq_false]
  intro x hx
  obtain ⟨j, hj, rfl⟩ := List.getElem_of_mem hx
  have := h j hj
  unfold Ln.at at this
  rw [List.getD_eq_getElem?_getD, List.getElem?_eq_getElem hj] at this
  simpa using this

/-- A test of lines, as a function value: what it answers at any line, in any later world. -/
def Tests (w : World) (K : Nat) (caps : Array Value) (q : Ln → Bool) : Prop :=
  ∀ (p c a : Int) (w1 : World), Below w.heap.size w w1 → Calls Tryd.prog K (#[.agg #[.int .i64 p, .int .i64 c, .int .i64 a]] ++ caps) w1 fun e w' => e = .returned (.bool (q ⟨p, c, a⟩)) ∧ Below w1.heap.size w1 w'

set_option maxHeartbeats 1000000 in
theorem index_ranges (a : Option Addr) (cap : Nat) (ls : List Ln) (q : Ln → Bool) (w : World)  (hx : LnAt w a ls) (hq : Tests w 118 #[] q) (hl : ls.length ≤ 1000000) :
    Calls Tryd.prog 122 #[.slice a ls.length cap, .func (.func 118) #[] #[]] w fun e w' => (∃ r : Int, e = .returned (.int .i64 r) ∧ decide (0 ≤ r) = ls.any q ∧ -1 ≤ r) ∧ Below w.heap.size w w' := by
  go_enter Tryd.func122, Tryd.ntmps122
  go_wp2_with fail
  go_loopw [5, 8] (fun _ i wr => ∃ k : Nat, k ≤ ls.length ∧ i = .int .i64 k ∧ (∀ j, j < k → q (Ln.at ls j) = false) ∧ Below w.heap.size w wr) (fun _ i _ => ls.length - (intOf i).toNat)
  case atStart => exact ⟨0, by omega, rfl, fun j hj => absurd hj (by omega), Below.refl _ _⟩
  case round =>
    obtain ⟨k, hk, rfl, hno, hbl⟩ := hrel
    have HNO := Lib.hid hno
    clear hno
    by_cases hlt : k < ls.length
    · obtain ⟨b, o, rfl, hcell⟩ := hx.after hbl (by omega)
      obtain ⟨c0, c1, c2⟩ := hcell k hlt
      have HQ := Lib.hid (hq (Ln.at ls k).p (Ln.at ls k).c (Ln.at ls k).a wr hbl)
      have i0 : (0 : Int) ≤ (k : Int) := by omega
      have i1 : (k : Int) < (ls.length : Int) := by omega
      have zb := hbl.size
      clear hcell hx hq
      go_wp2_with fail
      refine HQ.out.mono ?_
      rintro e w1 ⟨rfl, hb1⟩
      cases hv : q (Ln.at ls k)
      · have hv' : q ⟨(Ln.at ls k).p, (Ln.at ls k).c, (Ln.at ls k).a⟩ = false := hv
        have HV := Lib.hid hv
        try rw [hv']
        clear hv hv' HQ
        go_wp2_with fail
        go_roundw
        case rel => exact ⟨k + 1, by omega, by go_num, fun j hj => by
          rcases Nat.lt_or_ge j k with g | g
          · exact HNO.out j g
          · obtain rfl : j = k := by omega
            exact HV.out, hbl.trans (hb1.mono zb)⟩
        case measure => simp [intOf]; omega
      · have hv' : q ⟨(Ln.at ls k).p, (Ln.at ls k).c, (Ln.at ls k).a⟩ = true := hv
        have HV := Lib.hid hv
        try rw [hv']
        clear hv hv' HQ
        go_wp2_with fail
        go_ret
        exact ⟨⟨k, rfl, by rw [any_first ls q k hlt HV.out]; simp, by omega⟩, hbl.trans (hb1.mono zb)⟩
    · obtain rfl : k = ls.length := by omega
      clear hx hq
      go_wp2_with fail
      go_ret
      exact ⟨⟨-1, rfl, by rw [any_none ls q HNO.out]; simp, by omega⟩, hbl⟩

theorem contains_ranges (a : Option Addr) (cap : Nat) (ls : List Ln) (q : Ln → Bool) (w : World)  (hx : LnAt w a ls) (hq : Tests w 118 #[] q) (hl : ls.length ≤ 1000000) :
    Calls Tryd.prog 117 #[.slice a ls.length cap, .func (.func 118) #[] #[]] w fun e w' => e = .returned (.bool (ls.any q)) ∧ Below w.heap.size w w' := by
  have HX := Lib.hid hx
  have HQ := Lib.hid hq
  clear hx hq
  go_enter Tryd.func117, Tryd.ntmps117
  go_wp2_with fail
  refine (index_ranges a cap ls q _  HX.out HQ.out hl).mono ?_
  rintro e w1 ⟨⟨r, rfl, hr, hr1⟩, hb1⟩
  have HR := Lib.hid hr
  clear hr
  go_wp2_with fail
  go_ret
  exact ⟨ret_bool HR.out, hb1⟩
set_option maxHeartbeats 1000000 in
theorem index_lines (a : Option Addr) (cap : Nat) (ls : List Ln) (q : Ln → Bool) (w : World) (pv : Value) (hx : LnAt w a ls) (hq : Tests w 119 #[pv] q) (hl : ls.length ≤ 1000000) :
    Calls Tryd.prog 122 #[.slice a ls.length cap, .func (.func 119) #[] #[pv]] w fun e w' => (∃ r : Int, e = .returned (.int .i64 r) ∧ decide (0 ≤ r) = ls.any q ∧ -1 ≤ r) ∧ Below w.heap.size w w' := by
  go_enter Tryd.func122, Tryd.ntmps122
  go_wp2_with fail
  go_loopw [5, 8] (fun _ i wr => ∃ k : Nat, k ≤ ls.length ∧ i = .int .i64 k ∧ (∀ j, j < k → q (Ln.at ls j) = false) ∧ Below w.heap.size w wr) (fun _ i _ => ls.length - (intOf i).toNat)
  case atStart => exact ⟨0, by omega, rfl, fun j hj => absurd hj (by omega), Below.refl _ _⟩
  case round =>
    obtain ⟨k, hk, rfl, hno, hbl⟩ := hrel
    have HNO := Lib.hid hno
    clear hno
    by_cases hlt : k < ls.length
    · obtain ⟨b, o, rfl, hcell⟩ := hx.after hbl (by omega)
      obtain ⟨c0, c1, c2⟩ := hcell k hlt
      have HQ := Lib.hid (hq (Ln.at ls k).p (Ln.at ls k).c (Ln.at ls k).a wr hbl)
      have i0 : (0 : Int) ≤ (k : Int) := by omega
      have i1 : (k : Int) < (ls.length : Int) := by omega
      have zb := hbl.size
      clear hcell hx hq
      go_wp2_with fail
      refine HQ.out.mono ?_
      rintro e w1 ⟨rfl, hb1⟩
      cases hv : q (Ln.at ls k)
      · have hv' : q ⟨(Ln.at ls k).p, (Ln.at ls k).c, (Ln.at ls k).a⟩ = false := hv
        have HV := Lib.hid hv
        try rw [hv']
        clear hv hv' HQ
        go_wp2_with fail
        go_roundw
        case rel => exact ⟨k + 1, by omega, by go_num, fun j hj => by
          rcases Nat.lt_or_ge j k with g | g
          · exact HNO.out j g
          · obtain rfl : j = k := by omega
            exact HV.out, hbl.trans (hb1.mono zb)⟩
        case measure => simp [intOf]; omega
      · have hv' : q ⟨(Ln.at ls k).p, (Ln.at ls k).c, (Ln.at ls k).a⟩ = true := hv
        have HV := Lib.hid hv
        try rw [hv']
        clear hv hv' HQ
        go_wp2_with fail
        go_ret
        exact ⟨⟨k, rfl, by rw [any_first ls q k hlt HV.out]; simp, by omega⟩, hbl.trans (hb1.mono zb)⟩
    · obtain rfl : k = ls.length := by omega
      clear hx hq
      go_wp2_with fail
      go_ret
      exact ⟨⟨-1, rfl, by rw [any_none ls q HNO.out]; simp, by omega⟩, hbl⟩

theorem contains_lines (a : Option Addr) (cap : Nat) (ls : List Ln) (q : Ln → Bool) (w : World) (pv : Value) (hx : LnAt w a ls) (hq : Tests w 119 #[pv] q) (hl : ls.length ≤ 1000000) :
    Calls Tryd.prog 117 #[.slice a ls.length cap, .func (.func 119) #[] #[pv]] w fun e w' => e = .returned (.bool (ls.any q)) ∧ Below w.heap.size w w' := by
  have HX := Lib.hid hx
  have HQ := Lib.hid hq
  clear hx hq
  go_enter Tryd.func117, Tryd.ntmps117
  go_wp2_with fail
  refine (index_lines a cap ls q _ pv HX.out HQ.out hl).mono ?_
  rintro e w1 ⟨⟨r, rfl, hr, hr1⟩, hb1⟩
  have HR := Lib.hid hr
  clear hr
  go_wp2_with fail
  go_ret
  exact ⟨ret_bool HR.out, hb1⟩
set_option maxHeartbeats 1000000 in
theorem index_some (a : Option Addr) (cap : Nat) (ls : List Ln) (q : Ln → Bool) (w : World)  (hx : LnAt w a ls) (hq : Tests w 120 #[] q) (hl : ls.length ≤ 1000000) :
    Calls Tryd.prog 122 #[.slice a ls.length cap, .func (.func 120) #[] #[]] w fun e w' => (∃ r : Int, e = .returned (.int .i64 r) ∧ decide (0 ≤ r) = ls.any q ∧ -1 ≤ r) ∧ Below w.heap.size w w' := by
  go_enter Tryd.func122, Tryd.ntmps122
  go_wp2_with fail
  go_loopw [5, 8] (fun _ i wr => ∃ k : Nat, k ≤ ls.length ∧ i = .int .i64 k ∧ (∀ j, j < k → q (Ln.at ls j) = false) ∧ Below w.heap.size w wr) (fun _ i _ => ls.length - (intOf i).toNat)
  case atStart => exact ⟨0, by omega, rfl, fun j hj => absurd hj (by omega), Below.refl _ _⟩
  case round =>
    obtain ⟨k, hk, rfl, hno, hbl⟩ := hrel
    have HNO := Lib.hid hno
    clear hno
    by_cases hlt : k < ls.length
    · obtain ⟨b, o, rfl, hcell⟩ := hx.after hbl (by omega)
      obtain ⟨c0, c1, c2⟩ := hcell k hlt
      have HQ := Lib.hid (hq (Ln.at ls k).p (Ln.at ls k).c (Ln.at ls k).a wr hbl)
      have i0 : (0 : Int) ≤ (k : Int) := by omega
      have i1 : (k : Int) < (ls.length : Int) := by omega
      have zb := hbl.size
      clear hcell hx hq
      go_wp2_with fail
      refine HQ.out.mono ?_
      rintro e w1 ⟨rfl, hb1⟩
      cases hv : q (Ln.at ls k)
      · have hv' : q ⟨(Ln.at ls k).p, (Ln.at ls k).c, (Ln.at ls k).a⟩ = false := hv
        have HV := Lib.hid hv
        try rw [hv']
        clear hv hv' HQ
        go_wp2_with fail
        go_roundw
        case rel => exact ⟨k + 1, by omega, by go_num, fun j hj => by
          rcases Nat.lt_or_ge j k with g | g
          · exact HNO.out j g
          · obtain rfl : j = k := by omega
            exact HV.out, hbl.trans (hb1.mono zb)⟩
        case measure => simp [intOf]; omega
      · have hv' : q ⟨(Ln.at ls k).p, (Ln.at ls k).c, (Ln.at ls k).a⟩ = true := hv
        have HV := Lib.hid hv
        try rw [hv']
        clear hv hv' HQ
        go_wp2_with fail
        go_ret
        exact ⟨⟨k, rfl, by rw [any_first ls q k hlt HV.out]; simp, by omega⟩, hbl.trans (hb1.mono zb)⟩
    · obtain rfl : k = ls.length := by omega
      clear hx hq
      go_wp2_with fail
      go_ret
      exact ⟨⟨-1, rfl, by rw [any_none ls q HNO.out]; simp, by omega⟩, hbl⟩

theorem contains_some (a : Option Addr) (cap : Nat) (ls : List Ln) (q : Ln → Bool) (w : World)  (hx : LnAt w a ls) (hq : Tests w 120 #[] q) (hl : ls.length ≤ 1000000) :
    Calls Tryd.prog 117 #[.slice a ls.length cap, .func (.func 120) #[] #[]] w fun e w' => e = .returned (.bool (ls.any q)) ∧ Below w.heap.size w w' := by
  have HX := Lib.hid hx
  have HQ := Lib.hid hq
  clear hx hq
  go_enter Tryd.func117, Tryd.ntmps117
  go_wp2_with fail
  refine (index_some a cap ls q _  HX.out HQ.out hl).mono ?_
  rintro e w1 ⟨⟨r, rfl, hr, hr1⟩, hb1⟩
  have HR := Lib.hid hr
  clear hr
  go_wp2_with fail
  go_ret
  exact ⟨ret_bool HR.out, hb1⟩
set_option maxHeartbeats 1000000 in
theorem index_fits (a : Option Addr) (cap : Nat) (ls : List Ln) (q : Ln → Bool) (w : World)  (hx : LnAt w a ls) (hq : Tests w 121 #[] q) (hl : ls.length ≤ 1000000) :
    Calls Tryd.prog 122 #[.slice a ls.length cap, .func (.func 121) #[] #[]] w fun e w' => (∃ r : Int, e = .returned (.int .i64 r) ∧ decide (0 ≤ r) = ls.any q ∧ -1 ≤ r) ∧ Below w.heap.size w w' := by
  go_enter Tryd.func122, Tryd.ntmps122
  go_wp2_with fail
  go_loopw [5, 8] (fun _ i wr => ∃ k : Nat, k ≤ ls.length ∧ i = .int .i64 k ∧ (∀ j, j < k → q (Ln.at ls j) = false) ∧ Below w.heap.size w wr) (fun _ i _ => ls.length - (intOf i).toNat)
  case atStart => exact ⟨0, by omega, rfl, fun j hj => absurd hj (by omega), Below.refl _ _⟩
  case round =>
    obtain ⟨k, hk, rfl, hno, hbl⟩ := hrel
    have HNO := Lib.hid hno
    clear hno
    by_cases hlt : k < ls.length
    · obtain ⟨b, o, rfl, hcell⟩ := hx.after hbl (by omega)
      obtain ⟨c0, c1, c2⟩ := hcell k hlt
      have HQ := Lib.hid (hq (Ln.at ls k).p (Ln.at ls k).c (Ln.at ls k).a wr hbl)
      have i0 : (0 : Int) ≤ (k : Int) := by omega
      have i1 : (k : Int) < (ls.length : Int) := by omega
      have zb := hbl.size
      clear hcell hx hq
      go_wp2_with fail
      refine HQ.out.mono ?_
      rintro e w1 ⟨rfl, hb1⟩
      cases hv : q (Ln.at ls k)
      · have hv' : q ⟨(Ln.at ls k).p, (Ln.at ls k).c, (Ln.at ls k).a⟩ = false := hv
        have HV := Lib.hid hv
        try rw [hv']
        clear hv hv' HQ
        go_wp2_with fail
        go_roundw
        case rel => exact ⟨k + 1, by omega, by go_num, fun j hj => by
          rcases Nat.lt_or_ge j k with g | g
          · exact HNO.out j g
          · obtain rfl : j = k := by omega
            exact HV.out, hbl.trans (hb1.mono zb)⟩
        case measure => simp [intOf]; omega
      · have hv' : q ⟨(Ln.at ls k).p, (Ln.at ls k).c, (Ln.at ls k).a⟩ = true := hv
        have HV := Lib.hid hv
        try rw [hv']
        clear hv hv' HQ
        go_wp2_with fail
        go_ret
        exact ⟨⟨k, rfl, by rw [any_first ls q k hlt HV.out]; simp, by omega⟩, hbl.trans (hb1.mono zb)⟩
    · obtain rfl : k = ls.length := by omega
      clear hx hq
      go_wp2_with fail
      go_ret
      exact ⟨⟨-1, rfl, by rw [any_none ls q HNO.out]; simp, by omega⟩, hbl⟩

theorem contains_fits (a : Option Addr) (cap : Nat) (ls : List Ln) (q : Ln → Bool) (w : World)  (hx : LnAt w a ls) (hq : Tests w 121 #[] q) (hl : ls.length ≤ 1000000) :
    Calls Tryd.prog 117 #[.slice a ls.length cap, .func (.func 121) #[] #[]] w fun e w' => e = .returned (.bool (ls.any q)) ∧ Below w.heap.size w w' := by
  have HX := Lib.hid hx
  have HQ := Lib.hid hq
  clear hx hq
  go_enter Tryd.func117, Tryd.ntmps117
  go_wp2_with fail
  refine (index_fits a cap ls q _  HX.out HQ.out hl).mono ?_
  rintro e w1 ⟨⟨r, rfl, hr, hr1⟩, hb1⟩
  have HR := Lib.hid hr
  clear hr
  go_wp2_with fail
  go_ret
  exact ⟨ret_bool HR.out, hb1⟩

end Go.Proofs.YtmjgcenhgpkhiaaDoor
