/- What is turned and what is kept, for some blocks; the law's wrong and Tell. -/
import Derived.Test.YtfimgdjpnlcckaaFacJ
import Derived.Test.YtfimgdjpnlcckaaFacI
namespace Go.Proofs.Ytfimgdjpnlcckaa
open Go.RowKit
set_option linter.unusedVariables false
set_option linter.unusedSimpArgs false

/-- All that was there is as it was, but some blocks. -/
structure Turn (bs : List Nat) (w w' : World) : Prop where
  os : w'.os = w.os
  tape : w'.tape = w.tape
  output : w'.output = w.output
  size : w.heap.size ≤ w'.heap.size
  block : ∀ k, k < w.heap.size → k ∉ bs → w'.heap[k]? = w.heap[k]?
theorem Turn.refl (bs : List Nat) (w : World) : Turn bs w w := ⟨rfl, rfl, rfl, Nat.le_refl _, fun _ _ _ => rfl⟩
theorem Turn.trans {bs : List Nat} {a b c : World} (h : Turn bs a b) (k : Turn bs b c) : Turn bs a c :=
  ⟨k.os.trans h.os, k.tape.trans h.tape, k.output.trans h.output, Nat.le_trans h.size k.size, fun i hi hn => (k.block i (by have := h.size; omega) hn).trans (h.block i hi hn)⟩
theorem Turn.of_grown {w w' : World} {b : Nat} {bs : List Nat} (h : w.grownBy w' (some b)) (hb : b ∈ bs) : Turn bs w w' :=
  ⟨h.os, h.tape, h.output, h.size, fun k hk hn => h.block k hk fun e => hn (by cases e; exact hb)⟩
theorem Turn.of_below {w w' : World} {bs : List Nat} (h : Below w.heap.size w w') : Turn bs w w' := ⟨h.os, h.tape, h.output, h.size, fun k hk _ => h.block k hk⟩
theorem Turn.mono {w w' : World} {bs cs : List Nat} (h : Turn bs w w') (hb : ∀ b ∈ bs, b ∈ cs) : Turn cs w w' := ⟨h.os, h.tape, h.output, h.size, fun k hk hn => h.block k hk fun e => hn (hb k e)⟩
theorem Turn.below {w w' : World} {bs : List Nat} {N : Nat} (h : Turn bs w w') (hN : N ≤ w.heap.size) (hb : ∀ b ∈ bs, N ≤ b) : Below N w w' :=
  ⟨h.os, h.tape, h.output, h.size, fun k hk => h.block k (by omega) fun e => by have := hb k e; omega⟩
theorem Turn.blk {w w' : World} {bs : List Nat} {B : Nat} {cs : Array Value} {T : TypeId} (h : Turn bs w w') (hB : Blk w B cs T) (hn : B ∉ bs) : Blk w' B cs T := (h.block B hB.lt hn).trans hB
theorem Turn.facts {w w' : World} {bs : List Nat} {p ba bc : Nat} {A : List Fx} {C : List Ch} (h : Turn bs w w') (hF : FactsAt w p ba bc A C) (h1 : p ∉ bs) (h2 : ba ∉ bs) (h3 : bc ∉ bs) : FactsAt w' p ba bc A C :=
  ⟨h.blk hF.blk h1, hF.ma.block (h.block ba hF.ma.lt h2), hF.mc.block (h.block bc hF.mc.lt h3), hF.ra, hF.rc, hF.ne⟩
theorem Turn.rows {w w' : World} {bs : List Nat} {a : Option Addr} {n size : Nat} {f : Nat → List Value} (h : Turn bs w w') (hR : RowsAt w a n size f) (hlt : ∀ x, a = some x → x.block < w.heap.size) (hn : ∀ x, a = some x → x.block ∉ bs) : RowsAt w' a n size f := fun hl => by
  obtain ⟨b, o, e, hc⟩ := hR hl
  exact ⟨b, o, e, fun i hi j v hv => (World.cell?_of_block (h.block b (hlt _ e) (hn _ e))).trans (hc i hi j v hv)⟩

/-- A fact that is told, as a value. -/
abbrev tlV (c : Bool) (k d n m p : Int) : Array Value := #[.bool c, .int .i64 k, .int .i64 d, .int .i64 n, .int .i64 m, .int .i64 p]
set_option maxHeartbeats 2000000 in
theorem wrong_ok (x : Tl) (hx : x.Ok) (w : World) : Calls Try.prog 12 #[.agg (encT x).toArray] w fun e w' => e = .returned (.int .i64 (wrongT x)) ∧ Below w.heap.size w w' := by
  have hn := hx.n
  have hm := hx.m
  clear hx
  obtain ⟨c, k, d, n, m, p⟩ := x
  obtain ⟨V, hV⟩ : ∃ V, wrongT ⟨c, k, d, n, m, p⟩ = V := ⟨_, rfl⟩
  rw [hV]
  show Calls _ _ #[.agg (tlV c k d n m p)] _ _
  unfold wrongT wrongH wrongX mayV Tl.ch Tl.fx at hV
  dsimp only at hV hn hm
  have hb := Blk.new w (tlV c k d n m p) 31
  dsimp only [tlV] at hb ⊢
  have HR := Lib.hid (fun W => ref2chk_ok n m hn.1 hn.2 hm.1 hm.2 W)
  clear hn hm
  have x0 : (w.alloc (.cells #[.bool c, .int .i64 k, .int .i64 d, .int .i64 n, .int .i64 m, .int .i64 p] 31)).cell? ⟨w.heap.size, 0, none⟩ = some (.bool c) := hb.cell 0 rfl
  have x1 : (w.alloc (.cells #[.bool c, .int .i64 k, .int .i64 d, .int .i64 n, .int .i64 m, .int .i64 p] 31)).cell? ⟨w.heap.size, 1, none⟩ = some (.int .i64 k) := hb.cell 1 rfl
  have x2 : (w.alloc (.cells #[.bool c, .int .i64 k, .int .i64 d, .int .i64 n, .int .i64 m, .int .i64 p] 31)).cell? ⟨w.heap.size, 2, none⟩ = some (.int .i64 d) := hb.cell 2 rfl
  have x3 : (w.alloc (.cells #[.bool c, .int .i64 k, .int .i64 d, .int .i64 n, .int .i64 m, .int .i64 p] 31)).cell? ⟨w.heap.size, 3, none⟩ = some (.int .i64 n) := hb.cell 3 rfl
  have x4 : (w.alloc (.cells #[.bool c, .int .i64 k, .int .i64 d, .int .i64 n, .int .i64 m, .int .i64 p] 31)).cell? ⟨w.heap.size, 4, none⟩ = some (.int .i64 m) := hb.cell 4 rfl
  have x5 : (w.alloc (.cells #[.bool c, .int .i64 k, .int .i64 d, .int .i64 n, .int .i64 m, .int .i64 p] 31)).cell? ⟨w.heap.size, 5, none⟩ = some (.int .i64 p) := hb.cell 5 rfl
  clear hb
  by_cases h1 : k < 0
  · obtain rfl : 10 = V := by rw [← hV]; cases c <;> simp [h1]
    clear hV HR
    go_enter Try.func12, Try.ntmps12
    go_wp2_with fail
    go_ret
    exact ⟨rfl, (Below.refl _ _).alloc (Nat.le_refl _) _⟩
  have h1' : decide (k < 0) = false := decide_eq_false h1
  by_cases h2 : 63 < k
  · obtain rfl : 10 = V := by rw [← hV]; cases c <;> simp [h2]
    clear hV HR h1
    go_enter Try.func12, Try.ntmps12
    go_wp2_with fail
    go_ret
    exact ⟨rfl, (Below.refl _ _).alloc (Nat.le_refl _) _⟩
  have h2' : decide (63 < k) = false := decide_eq_false h2
  have hmay : ∀ r, (if k < 0 ∨ 63 < k ∨ r = false then (10 : Int) else if d < 0 ∨ 73048 < d then 18 else 0) = if r = false then 10 else if d < 0 ∨ 73048 < d then 18 else 0 := fun r => by
    simp [h1, h2]
  rw [hmay, hmay] at hV
  clear hmay h1 h2
  cases c with
  | true =>
    rw [if_pos rfl] at hV
    clear HR
    by_cases p1 : p = 1
    · subst p1
      rw [if_neg (by simp)] at hV
      by_cases d1 : d < 0
      · obtain rfl : 18 = V := by rw [← hV, if_pos (Or.inl d1)]
        clear hV
        go_enter Try.func12, Try.ntmps12
        go_wp2_with fail
        go_ret
        exact ⟨rfl, (Below.refl _ _).alloc (Nat.le_refl _) _⟩
      have d1' : decide (d < 0) = false := decide_eq_false d1
      by_cases d2 : 73048 < d
      · obtain rfl : 18 = V := by rw [← hV, if_pos (Or.inr d2)]
        clear hV d1
        go_enter Try.func12, Try.ntmps12
        go_wp2_with fail
        go_ret
        exact ⟨rfl, (Below.refl _ _).alloc (Nat.le_refl _) _⟩
      have d2' : decide (73048 < d) = false := decide_eq_false d2
      rw [if_neg (by omega)] at hV
      subst hV
      clear d1 d2
      · go_enter Try.func12, Try.ntmps12
        go_wp2_with fail
        go_ret
        exact ⟨rfl, (Below.refl _ _).alloc (Nat.le_refl _) _⟩
    · have p1' : (p == 1) = false := by simpa using p1
      have p1'' : (p != 1) = true := by simpa using p1
      by_cases p2 : p = 2
      · subst p2
        rw [if_neg (by simp)] at hV
        clear p1 p1' p1''
        by_cases d1 : d < 0
        · obtain rfl : 18 = V := by rw [← hV, if_pos (Or.inl d1)]
          clear hV
          go_enter Try.func12, Try.ntmps12
          go_wp2_with fail
          go_ret
          exact ⟨rfl, (Below.refl _ _).alloc (Nat.le_refl _) _⟩
        have d1' : decide (d < 0) = false := decide_eq_false d1
        by_cases d2 : 73048 < d
        · obtain rfl : 18 = V := by rw [← hV, if_pos (Or.inr d2)]
          clear hV d1
          go_enter Try.func12, Try.ntmps12
          go_wp2_with fail
          go_ret
          exact ⟨rfl, (Below.refl _ _).alloc (Nat.le_refl _) _⟩
        have d2' : decide (73048 < d) = false := decide_eq_false d2
        rw [if_neg (by omega)] at hV
        subst hV
        clear d1 d2
        · go_enter Try.func12, Try.ntmps12
          go_wp2_with fail
          go_ret
          exact ⟨rfl, (Below.refl _ _).alloc (Nat.le_refl _) _⟩
      · have p2' : (p == 2) = false := by simpa using p2
        have p2'' : (p != 2) = true := by simpa using p2
        obtain rfl : 10 = V := by rw [← hV, if_pos (by simp [p1, p2])]
        clear hV p1 p2
        go_enter Try.func12, Try.ntmps12
        go_wp2_with fail
        go_ret
        exact ⟨rfl, (Below.refl _ _).alloc (Nat.le_refl _) _⟩
  | false =>
    have hs : (if true = false then (10 : Int) else if d < 0 ∨ 73048 < d then 18 else 0) = if d < 0 ∨ 73048 < d then 18 else 0 := if_neg (by simp)
    rw [if_neg (show ¬ (false = true) by simp), hs] at hV
    clear hs
    by_cases d1 : d < 0
    · obtain rfl : 18 = V := by rw [← hV, if_pos (Or.inl d1)]; rfl
      clear hV HR
      go_enter Try.func12, Try.ntmps12
      go_wp2_with fail
      go_ret
      exact ⟨rfl, (Below.refl _ _).alloc (Nat.le_refl _) _⟩
    have d1' : decide (d < 0) = false := decide_eq_false d1
    by_cases d2 : 73048 < d
    · obtain rfl : 18 = V := by rw [← hV, if_pos (Or.inr d2)]; rfl
      clear hV d1 HR
      go_enter Try.func12, Try.ntmps12
      go_wp2_with fail
      go_ret
      exact ⟨rfl, (Below.refl _ _).alloc (Nat.le_refl _) _⟩
    have d2' : decide (73048 < d) = false := decide_eq_false d2
    rw [if_neg (show ¬ (d < 0 ∨ 73048 < d) by omega), if_pos rfl] at hV
    clear d1 d2
    have HV := Lib.hid hV
    clear hV
    go_enter Try.func12, Try.ntmps12
    go_wp2_with fail
    with_reducible refine (HR.out _).mono ?_
    rintro e w1 ⟨rfl, hb1⟩
    rw [HV.out]
    go_wp2_with fail
    go_ret
    have hb0 : Below w.heap.size w (w.alloc (.cells #[.bool false, .int .i64 k, .int .i64 d, .int .i64 n, .int .i64 m, .int .i64 p] 31)) := (Below.refl _ _).alloc (Nat.le_refl _) _
    exact ⟨rfl, hb0.trans (hb1.mono hb0.size)⟩

def TellEnd (w : World) (q ba bc : Nat) (A : List Fx) (C : List Ch) (x : Tl) (e : Ending) (w' : World) : Prop :=
  e = .returned (.int .i64 (wrongT x)) ∧ Turn [ba, bc] w w' ∧ FactsAt w' q ba bc (tellS (A, C) x).1 (tellS (A, C) x).2
set_option maxHeartbeats 2000000 in
theorem tell_ok (q ba bc : Nat) (A : List Fx) (C : List Ch) (x : Tl) (hx : x.Ok) (w : World) (h : FactsAt w q ba bc A C) : Calls Try.prog 11 #[.pointer (some ⟨q, 0, none⟩), .agg (encT x).toArray] w (TellEnd w q ba bc A C x) := by
  have hb0 : Below w.heap.size w (w.alloc (.cells (encT x).toArray 31)) := (Below.refl _ _).alloc (Nat.le_refl _) _
  have HB0 := Lib.hid hb0
  have h1 := h.after hb0
  have hn := hx.n
  have hm := hx.m
  have hb := Blk.new w (encT x).toArray 31
  clear hx hb0 h
  obtain ⟨c, k, d, n, m, p⟩ := x
  dsimp only [encT] at *
  show Calls _ _ #[_, .agg (tlV c k d n m p)] _ _
  dsimp only [tlV]
  cases c with
  | true =>
    have HC := Lib.hid (choose_ok q ba bc A C ⟨k, d, p⟩ _ h1)
    dsimp only [encH] at HC
    have x0 : (w.alloc (.cells #[.bool true, .int .i64 k, .int .i64 d, .int .i64 n, .int .i64 m, .int .i64 p] 31)).cell? ⟨w.heap.size, 0, none⟩ = some (.bool true) := hb.cell 0 rfl
    have x1 : (w.alloc (.cells #[.bool true, .int .i64 k, .int .i64 d, .int .i64 n, .int .i64 m, .int .i64 p] 31)).cell? ⟨w.heap.size, 1, none⟩ = some (.int .i64 k) := hb.cell 1 rfl
    have x2 : (w.alloc (.cells #[.bool true, .int .i64 k, .int .i64 d, .int .i64 n, .int .i64 m, .int .i64 p] 31)).cell? ⟨w.heap.size, 2, none⟩ = some (.int .i64 d) := hb.cell 2 rfl
    have x3 : (w.alloc (.cells #[.bool true, .int .i64 k, .int .i64 d, .int .i64 n, .int .i64 m, .int .i64 p] 31)).cell? ⟨w.heap.size, 3, none⟩ = some (.int .i64 n) := hb.cell 3 rfl
    have x4 : (w.alloc (.cells #[.bool true, .int .i64 k, .int .i64 d, .int .i64 n, .int .i64 m, .int .i64 p] 31)).cell? ⟨w.heap.size, 4, none⟩ = some (.int .i64 m) := hb.cell 4 rfl
    have x5 : (w.alloc (.cells #[.bool true, .int .i64 k, .int .i64 d, .int .i64 n, .int .i64 m, .int .i64 p] 31)).cell? ⟨w.heap.size, 5, none⟩ = some (.int .i64 p) := hb.cell 5 rfl
    clear hb hn hm h1
    go_enter Try.func11, Try.ntmps11
    go_wp2_with fail
    with_reducible refine HC.out.mono ?_
    rintro e w1 ⟨rfl, hg1, hF1⟩
    have HG := Lib.hid hg1
    have HF := Lib.hid hF1
    clear hg1 hF1
    go_wp2_with fail
    go_ret
    exact ⟨rfl, (Turn.of_below HB0.out).trans (Turn.of_grown HG.out (by simp)), HF.out⟩
  | false =>
    have HC := Lib.hid (fix_ok q ba bc A C ⟨k, d, n, m⟩ hn hm _ h1)
    dsimp only [encX] at HC
    have x0 : (w.alloc (.cells #[.bool false, .int .i64 k, .int .i64 d, .int .i64 n, .int .i64 m, .int .i64 p] 31)).cell? ⟨w.heap.size, 0, none⟩ = some (.bool false) := hb.cell 0 rfl
    have x1 : (w.alloc (.cells #[.bool false, .int .i64 k, .int .i64 d, .int .i64 n, .int .i64 m, .int .i64 p] 31)).cell? ⟨w.heap.size, 1, none⟩ = some (.int .i64 k) := hb.cell 1 rfl
    have x2 : (w.alloc (.cells #[.bool false, .int .i64 k, .int .i64 d, .int .i64 n, .int .i64 m, .int .i64 p] 31)).cell? ⟨w.heap.size, 2, none⟩ = some (.int .i64 d) := hb.cell 2 rfl
    have x3 : (w.alloc (.cells #[.bool false, .int .i64 k, .int .i64 d, .int .i64 n, .int .i64 m, .int .i64 p] 31)).cell? ⟨w.heap.size, 3, none⟩ = some (.int .i64 n) := hb.cell 3 rfl
    have x4 : (w.alloc (.cells #[.bool false, .int .i64 k, .int .i64 d, .int .i64 n, .int .i64 m, .int .i64 p] 31)).cell? ⟨w.heap.size, 4, none⟩ = some (.int .i64 m) := hb.cell 4 rfl
    have x5 : (w.alloc (.cells #[.bool false, .int .i64 k, .int .i64 d, .int .i64 n, .int .i64 m, .int .i64 p] 31)).cell? ⟨w.heap.size, 5, none⟩ = some (.int .i64 p) := hb.cell 5 rfl
    clear hb hn hm h1
    go_enter Try.func11, Try.ntmps11
    go_wp2_with fail
    with_reducible refine HC.out.mono ?_
    rintro e w1 ⟨rfl, hg1, hF1⟩
    have HG := Lib.hid hg1
    have HF := Lib.hid hF1
    clear hg1 hF1
    go_wp2_with fail
    go_ret
    exact ⟨rfl, (Turn.of_below HB0.out).trans (Turn.of_grown HG.out (by simp)), HF.out⟩

end Go.Proofs.Ytfimgdjpnlcckaa
