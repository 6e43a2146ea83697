/- Locks ahead of calls: what they keep. -/
import Derived.Test.YtpinhomalmknjaaDoorLgO
import Derived.Test.YtpinhomalmknjaaDoorLgR
namespace Go.Proofs.YtpinhomalmknjaaDoor
open Go.RowKit
set_option linter.unusedVariables false
set_option linter.unusedSimpArgs false
set_option maxRecDepth 100000

/-- A block that holds a pointer and a number: what periods lie in. -/
def PBox (w : World) (q : Nat) : Prop := ∃ (a : Option Addr) (n : Int) (T : TypeId), Blk w q #[.pointer a, .int .i64 n] T
def Bx (w : World) (q : Nat) : Prop := LBox w q ∨ PBox w q
theorem Bx.no_two {w : World} {q i : Nat} {n m : Int} (h : Bx w q) : ¬ (w.cell? ⟨q, i, none⟩ = some (.int .i64 n) ∧ w.cell? ⟨q, i + 1, none⟩ = some (.int .i64 m)) := fun ⟨e, e'⟩ => by
  rcases h with h | ⟨a, k, T, hb⟩
  · exact h.no_int e
  · have hb' : w.heap[q]? = some (.cells #[.pointer a, .int .i64 k] T (0, 0)) := hb
    simp only [World.cell?, hb'] at e e'
    rcases i with _ | _ | i
    · simp at e
    · simp at e'
    · simp at e
theorem Bx.no_map {w : World} {q B : Nat} {ok : Value → Prop} {m : List (Value × Value)} (h : Bx w q) (hm : MapAt ok w B m) : B ≠ q := fun e => by
  subst e
  obtain ⟨es, cl, he, _⟩ := hm
  rcases h with ⟨a, n, c, k, T, hq⟩ | ⟨a, k, T, hq⟩
  · rw [hq] at he; cases he
  · have hq' : w.heap[B]? = some (.cells #[.pointer a, .int .i64 k] T (0, 0)) := hq
    rw [hq'] at he; cases he
theorem LnAt.turn2 {w w' : World} {bs : List Nat} {a : Option Addr} {ls : List Ln} (h : LnAt w a ls) (t : Turn bs w w') (hb : ∀ q ∈ bs, Bx w q) : LnAt w' a ls := fun hl => by
  obtain ⟨b, o, e, hc⟩ := h hl
  have h0 := (hc 0 hl).1
  have hlt : b < w.heap.size := World.block_lt_of_cell? w _ h0
  have hn : b ∉ bs := fun hm => (hb b hm).no_two ⟨h0, (hc 0 hl).2.1⟩
  have hk := t.block b hlt hn
  exact ⟨b, o, e, fun i hi => ⟨(World.cell?_of_block hk).trans (hc i hi).1, (World.cell?_of_block hk).trans (hc i hi).2.1, (World.cell?_of_block hk).trans (hc i hi).2.2⟩⟩
theorem EnOk.turn2 {w w' : World} {bs : List Nat} {e : En} (h : EnOk w e) (t : Turn bs w w') (hb : ∀ q ∈ bs, Bx w q) : EnOk w' e := ⟨h.ln.turn2 t hb, h.wf, h.few, h.nil⟩
theorem SlAt.turn2 {w w' : World} {bs : List Nat} {a : Option Addr} {cap : Nat} {E : List En} (h : SlAt w 7 En.cs a cap E) (t : Turn bs w w') (hb : ∀ q ∈ bs, Bx w q) : SlAt w' 7 En.cs a cap E := by
  refine ⟨fun hl => ?_, h.le, h.max, h.sh.imp id fun ⟨b, o, e, hlt⟩ => ⟨b, o, e, by have := t.size; omega⟩⟩
  obtain ⟨b, o, e, hc⟩ := h.recs hl
  have h0 : w.cell? ⟨b, o + 0 * 7 + 0, none⟩ = some (.int .i64 (E.getD 0 default).s.con) := hc 0 hl 0 _ rfl
  have h1 : w.cell? ⟨b, o + 0 * 7 + 0 + 1, none⟩ = some (.int .i64 (E.getD 0 default).s.day) := hc 0 hl 1 _ rfl
  have hlt : b < w.heap.size := World.block_lt_of_cell? w _ h0
  have hn : b ∉ bs := fun hm => (hb b hm).no_two ⟨h0, h1⟩
  exact ⟨b, o, e, fun i hi j v hv => (World.cell?_of_block (a := ⟨b, o + i * 7 + j, none⟩) (t.block b hlt hn)).trans (hc i hi j v hv)⟩
theorem LgAt.turn2 {w w' : World} {bs : List Nat} {p bm : Nat} {a : Option Addr} {cap : Nat} {E : List En} (h : LgAt w p bm a cap E) (t : Turn bs w w') (hb : ∀ q ∈ bs, Bx w q) (hp : p ∉ bs) : LgAt w' p bm a cap E :=
  ⟨t.blk h.blk hp, h.sl.turn2 t hb, fun e he => (h.ok e he).turn2 t hb, h.map.block (t.block bm h.map.lt fun hm => (hb bm hm).no_map h.map rfl)⟩
theorem PBox.turn {w w' : World} {bs : List Nat} {q : Nat} (h : PBox w q) (t : Turn bs w w') (hn : q ∉ bs) : PBox w' q := by
  obtain ⟨a, n, T, hb⟩ := h
  exact ⟨a, n, T, t.blk hb hn⟩
theorem PBox.after {w w' : World} {q : Nat} (h : PBox w q) (hb : Below w.heap.size w w') : PBox w' q := h.turn (bs := []) (Turn.of_below hb) (by simp)
theorem PBox.set {w : World} {b : Nat} (h : PBox w b) (l : Int) : PBox (w.setCell ⟨b, 1, none⟩ (.int .i64 l)) b := by
  obtain ⟨a, n, T, hb⟩ := h
  exact ⟨a, l, T, hb.set 1 _⟩
def NewPB (size : Int) (w : World) (e : Ending) (w' : World) : Prop :=
  ∃ b s : Nat, e = .returned (.tuple #[.pointer (some ⟨b, 0, none⟩), .int .i64 0]) ∧ Per w' b s size 0 ∧ PBox w' b ∧ Below w.heap.size w w' ∧ w.heap.size ≤ b ∧ w.heap.size ≤ s ∧ s ≠ b
theorem pnew_box (size : Int) (w : World) (h1 : 1 ≤ size) (h2 : size ≤ 400) :
    Calls Tryd.prog 13 #[.int .i64 size] w (NewPB size w) := by
  go_enter Tryd.func13, Tryd.ntmps13
  go_wp2
  go_ret2
  refine ⟨w.heap.size + 1, w.heap.size, rfl, ⟨?_, ?_, ?_, ?_, ?_⟩, ⟨some ⟨w.heap.size, 0, none⟩, 0, 83, ?_⟩, ((Below.refl _ _).alloc (Nat.le_refl _) _).alloc (by simp) _, by omega, by omega, by omega⟩
  rotate_left 5
  · have := Blk.new (w.alloc (.cells #[.int .i64 size] 81)) #[.pointer (some ⟨w.heap.size, 0, none⟩), .int .i64 0] 83
    rw [World.size_alloc] at this
    first | exact this | (simpa using this)
  all_goals go_simp
/-- The earliest period locked, or not. -/
def LockEnd (b s : Nat) (l : Int) (w : World) (e : Ending) (w' : World) : Prop :=
  ∃ n l', e = .returned (.int .i64 n) ∧ Per w' b s 30 l' ∧ PBox w' b ∧ (l' = l ∨ l' = l + 1) ∧ Turn [b] w w'
theorem plock_box (b s : Nat) (l clock : Int) (w : World) (hP : Per w b s 30 l) (hB : PBox w b) (h3 : 0 ≤ l) (h4 : l ≤ 100) :
    Calls Tryd.prog 31 #[.pointer (some ⟨b, 0, none⟩), .int .i64 l, .int .i64 clock] w (LockEnd b s l w) := by
  have p4 : l ≤ lastP 30 := Int.le_trans h4 (by decide)
  have HB := Lib.hid hB
  clear hB
  by_cases c4 : clock ≤ toP 30 l
  · go_enter Tryd.func31, Tryd.ntmps31
    go_wp2_with (go_at_call 47; refine (pspan_ok b s 30 _ _ _ hP (by omega) (by omega) h3 p4).mono ?_; rintro e w' ⟨rfl, hb'⟩; have hP' := hP.after hb'; have hP'' := Lib.hid hP'; obtain ⟨q0, q1, qs, qf, qn⟩ := hP')
    go_ret
    exact ⟨_, l, rfl, hP''.out, HB.out.after hb', .inl rfl, Turn.of_below hb'⟩
  · go_enter Tryd.func31, Tryd.ntmps31
    go_wp2_with (go_at_call 47; refine (pspan_ok b s 30 _ _ _ hP (by omega) (by omega) h3 p4).mono ?_; rintro e w' ⟨rfl, hb'⟩; have hP' := hP.after hb'; have hP'' := Lib.hid hP'; obtain ⟨q0, q1, qs, qf, qn⟩ := hP')
    go_ret
    exact ⟨_, l + 1, rfl, hP''.out.set _, (HB.out.after hb').set _, .inr rfl, Turn.of_grown (grown_trans (below_row hb' _) (grown_setCell _ b 1 _)) (by simp)⟩

end Go.Proofs.YtpinhomalmknjaaDoor
