/- Books that are written off: the plain law; calls done one behind the other. -/
import Derived.Test.YtpinhomalmknjaaDoorQd
import Derived.Test.YtpinhomalmknjaaDoorInts
import Derived.ChangeKeysEq
import Derived.Laws.StructEq
namespace Go.Proofs.YtpinhomalmknjaaDoor
open Go.RowKit Go.Sort Go.Shelf
set_option linter.unusedVariables false
set_option linter.unusedSimpArgs false
set_option maxRecDepth 100000

theorem revI_take {L : List EnP} {j : Nat} {no : Int} (h : ∀ i e, i < j → L[i]? = some e → ¬ (e.s.ref = no ∧ 0 ≤ no)) : revI (L.take j) no = none := by
  unfold revI
  rw [List.findIdx?_eq_none_iff]
  intro e he
  obtain ⟨i, hi, rfl⟩ := List.getElem_of_mem he
  rw [List.length_take] at hi
  have := h i (L[i]'(by omega)) (by omega) (List.getElem?_eq_getElem (by omega))
  rw [List.getElem_take]
  simpa using this
theorem WL.wrong_take {L : List EnP} (h : WL L) {j : Nat} {e : EnP} (he : L[j]? = some e) : wrongE (L.take j) e = 0 := by
  have hc := h.ck e (List.mem_of_getElem? he)
  by_cases hr : e.s.ref = -1
  · exact wrongE_new hc hr
  · obtain ⟨old, h1, h2, h3, h4⟩ := h.ref j e he hr
    have h5 := (h.refs he hr).1
    rw [wrongE_in hc hr (old := old) (by rw [List.getElem?_take_of_lt h2]; exact h1)]
    have hv : revI (L.take j) e.s.ref = none := revI_take fun i f hi hf hh => by
      have := h.one i j f e hf he hh.1 (by rw [hh.1]; exact hr)
      omega
    rw [hv, if_neg (by simp), if_neg (by simpa using h3), if_pos h4]
theorem WL.takeW {L : List EnP} (h : WL L) (j : Nat) : WL (L.take j) := by
  refine ⟨fun e he => h.ck e (List.mem_of_mem_take he), fun k e hk hr => ?_, fun i k e f hi hk he hr => ?_, h.seq.sublist (List.take_sublist j L)⟩
  · have hkj : k < j := by have := (List.getElem?_eq_some_iff.1 hk).1; rw [List.length_take] at this; omega
    rw [List.getElem?_take_of_lt hkj] at hk
    obtain ⟨old, h1, h2, h3⟩ := h.ref k e hk hr
    exact ⟨old, by rw [List.getElem?_take_of_lt (by omega)]; exact h1, h2, h3⟩
  · have hij : i < j := by have := (List.getElem?_eq_some_iff.1 hi).1; rw [List.length_take] at this; omega
    have hkj : k < j := by have := (List.getElem?_eq_some_iff.1 hk).1; rw [List.length_take] at this; omega
    rw [List.getElem?_take_of_lt hij] at hi
    rw [List.getElem?_take_of_lt hkj] at hk
    exact h.one i k e f hi hk he hr
theorem seqOf_take {L : List EnP} (h : WL L) {j : Nat} {e : EnP} (he : L[j]? = some e) : seqOf (L.take j) ≤ e.s.seq := by
  unfold seqOf
  have h0 := (check_nums (h.ck e (List.mem_of_getElem? he))).1
  cases hg : (L.take j).getLast? with
  | none => exact h0
  | some f =>
    obtain ⟨hj, hje⟩ := List.getElem?_eq_some_iff.1 he
    rw [List.getLast?_eq_getElem?] at hg
    have hlt := (List.getElem?_eq_some_iff.1 hg).1
    rw [List.length_take] at hlt hg
    rw [List.getElem?_take_of_lt (by omega)] at hg
    obtain ⟨hi, hie⟩ := List.getElem?_eq_some_iff.1 hg
    have := List.pairwise_iff_getElem.1 h.seq _ _ hi hj (by omega)
    rw [hie, hje] at this
    exact this
theorem stamp_self (e : EnP) : stamp e.s.per e.s.seq e = e := rfl
/-- What is written off is put. -/
theorem WL.off {L : List EnP} (h : WL L) (hp : PerOk L) {j : Nat} {e : EnP} (he : L[j]? = some e) : postE (decide (0 ≤ e.s.per ∧ e.s.per ≤ lastP 30)) (decide (e.s.per < 0)) e.s.per e.s.seq (L.take j) [e] = 0 ∧ postL (decide (0 ≤ e.s.per ∧ e.s.per ≤ lastP 30)) (decide (e.s.per < 0)) e.s.per e.s.seq (L.take j) [e] = L.take (j + 1) := by
  have hm := List.mem_of_getElem? he
  obtain ⟨p0, p1⟩ := hp e hm
  obtain ⟨s0, _⟩ := check_nums (h.ck e hm)
  have hE : postE (decide (0 ≤ e.s.per ∧ e.s.per ≤ lastP 30)) (decide (e.s.per < 0)) e.s.per e.s.seq (L.take j) [e] = 0 := by
    rw [decide_eq_true (show 0 ≤ e.s.per ∧ e.s.per ≤ lastP 30 from ⟨p0, p1⟩), decide_eq_false (show ¬ e.s.per < 0 by omega)]
    unfold postE
    have hq := seqOf_take h he
    rw [if_neg (by decide), if_neg (by decide), if_neg (by omega)]
    unfold postK
    rw [if_pos (h.wrong_take he)]
    rfl
  refine ⟨hE, ?_⟩
  unfold postL
  rw [if_pos hE]
  obtain ⟨hj, hje⟩ := List.getElem?_eq_some_iff.1 he
  rw [List.take_succ_eq_append_getElem hj, hje]
  rfl
theorem BkS.more {W : World} {p b s i m m' : Nat} {L : List EnP} {A : World} (h : BkS W p b s i m L A) (hm : m ≤ m') : BkS W p b s i m' L A := ⟨h.ex, h.wl, h.per, h.pb, Nat.le_trans h.len hm, h.be⟩
theorem Turn.drop3 {p b q : Nat} {w0 w w' : World} (h0 : Below w0.heap.size w0 w) (t : Turn [p, b, q] w w') (hq : w0.heap.size ≤ q) : Turn [p, b] w0 w' :=
  ⟨t.os.trans h0.os, t.tape.trans h0.tape, t.output.trans h0.output, Nat.le_trans h0.size t.size, fun k hk hn => (t.block k (by have := h0.size; omega) (by simp at hn ⊢; omega)).trans (h0.block k hk)⟩
theorem RqOk.new (w : World) : RqOk (w.alloc (.cells #[.slice none 0 0] 40)) w.heap.size none 0 [] :=
  ⟨⟨Blk.new _ _ _, ⟨fun h => absurd h (by simp), Nat.le_refl _, Nat.zero_le _, .inl ⟨rfl, rfl, rfl⟩⟩, fun e he => by simp at he⟩, fun _ => ⟨rfl, rfl⟩⟩
/-- The books of a loop of calls, and of the others'. -/
structure LpS (W : World) (p b s i : Nat) (wr : World) : Prop where
  ex : ∃ L, BkS W p b s i (6 * i) L wr ∧ PerOk L
structure YyS (py b2 s2 : Nat) (wr : World) : Prop where
  y : ∃ bm a cap, LgAt wr py bm a cap []
  per : Per wr b2 s2 30 0
theorem YyS.after {py b2 s2 : Nat} {A C : World} (h : YyS py b2 s2 A) (hb : Below A.heap.size A C) : YyS py b2 s2 C := by
  obtain ⟨⟨bm, a, cap, h1⟩, h2⟩ := h
  exact ⟨⟨bm, a, cap, h1.after hb⟩, h2.after hb⟩
theorem YyS.turn {py b2 s2 : Nat} {A C : World} {bs : List Nat} (h : YyS py b2 s2 A) (t : Turn bs A C) (hb : ∀ q ∈ bs, Bx A q) (h1 : py ∉ bs) (h2 : b2 ∉ bs) (h3 : s2 ∉ bs) : YyS py b2 s2 C := by
  obtain ⟨⟨bm, a, cap, k1⟩, k2⟩ := h
  exact ⟨⟨bm, a, cap, k1.turn2 t hb h1⟩, k2.turn t h2 h3⟩
theorem BkS.bxs {W : World} {p b s i m : Nat} {L : List EnP} {A : World} (h : BkS W p b s i m L A) : ∀ q ∈ [p, b], Bx A q := fun q hq => by
  obtain ⟨⟨bm, a, cap, E, h1, _⟩, _, _, h4, _⟩ := h
  rcases List.mem_cons.1 hq with rfl | hq
  · exact .inl h1.box
  · rw [List.mem_singleton.1 hq]; exact .inr h4

end Go.Proofs.YtpinhomalmknjaaDoor
/- Equality of arrays of integers, and of structs of integers, as equality of their lists. Over any program. -/
namespace Go.Proofs.YtpinhomalmknjaaDoor
open Go.RowKit
set_option linter.unusedVariables false
set_option linter.unusedSimpArgs false

section
variable {P : Program}

/-- Integers as cells. -/
def intC (xs : List Int) : Array Value := (xs.map (Value.int .i64)).toArray
theorem intC_get (xs : List Int) (j : Nat) (h : j < xs.length) : (intC xs)[j]? = some (.int .i64 (xs.getD j 0)) := by
  unfold intC
  simp [List.getElem?_eq_getElem h, List.getD_eq_getElem?_getD]

theorem eqItems_ints (w : World) (d : Nat) {e : TypeId} (he : P.underlying e = some (.int .i64)) (hp : P.plainKey e = true) (xs ys : List Int) (hl : xs.length = ys.length) :
    ∀ is : List Nat, (∀ j ∈ is, j < xs.length) → (Op.eqItems (d + 1) e 1 (intC xs) (intC ys) is).run P w = .ok (is.all fun j => xs.getD j 0 == ys.getD j 0) w
  | [], _ => by simp [Op.eqItems]
  | i :: is, h => by
    have hi := h i (by simp)
    have ih := eqItems_ints w d he hp xs ys hl is fun j hj => h j (by simp [hj])
    simp only [Op.eqItems, Sem.run_bind, Nat.mul_one]
    rw [run_part_plain w hp (intC_get xs i hi), Result.andThen_ok, run_part_plain w hp (intC_get ys i (by omega)), Result.andThen_ok]
    rw [run_equalIn_int w d e .i64 .i64 _ _ he, Result.andThen_ok, List.all_cons]
    cases (xs.getD i 0 == ys.getD i 0)
    · simp
    · simpa using ih

theorem all_range_eq (xs ys : List Int) (n : Nat) (h1 : xs.length = n) (h2 : ys.length = n) : ((List.range n).all fun j => xs.getD j 0 == ys.getD j 0) = decide (xs = ys) := by
  rw [Bool.eq_iff_iff, decide_eq_true_iff, List.all_eq_true]
  constructor
  · intro h
    refine List.ext_getElem (by omega) fun i a b => ?_
    have := h i (by simp; omega)
    simp [List.getD_eq_getElem?_getD, List.getElem?_eq_getElem a, List.getElem?_eq_getElem b] at this
    exact this
  · rintro rfl
    simp

theorem eq_array (w : World) {t e : TypeId} {n : Nat} {i : TypeInfo} (hu : P.underlying t = some (.array n e)) (hi : P.info? e = some i) (he : P.underlying e = some (.int .i64)) (hp : P.plainKey e = true) (hc : P.cellsOf e = 1)
    (xs ys : List Int) (h1 : xs.length = n) (h2 : ys.length = n) : (Op.equalIn 10000 t (.agg (intC xs)) (.agg (intC ys))).run P w = .ok (decide (xs = ys)) w := by
  rw [run_equalIn_array w 9999 (intC xs) (intC ys) hu hi, hc, eqItems_ints w 9998 he hp xs ys (by omega) _ (by intro j hj; simp at hj; omega), all_range_eq xs ys n h1 h2]

theorem eqFields_ints (w : World) (d : Nat) (xs ys : List Int) (hl : xs.length = ys.length) :
    ∀ (fs : List Field) (k : Nat), (∀ (j : Nat) (f : Field), fs[j]? = some f → f.name ≠ "_" ∧ f.offset = k + j ∧ k + j < xs.length ∧ P.underlying f.type = some (.int .i64) ∧ P.plainKey f.type = true) →
    (Op.eqFields (d + 1) (intC xs) (intC ys) fs).run P w = .ok ((List.range fs.length).all fun j => xs.getD (k + j) 0 == ys.getD (k + j) 0) w
  | [], k, _ => by simp [Op.eqFields]
  | f :: fs, k, h => by
    obtain ⟨hn, ho, hlt, hu, hp⟩ := h 0 f rfl
    have ih := eqFields_ints w d xs ys hl fs (k + 1) fun j g hg => by
      obtain ⟨a, b, c, e⟩ := h (j + 1) g (by simpa using hg)
      exact ⟨a, by omega, by omega, e⟩
    rw [Nat.add_zero] at ho hlt
    simp only [Op.eqFields, hn, ne_eq, not_false_eq_true, if_true, Sem.run_bind, ho]
    rw [run_part_plain w hp (intC_get xs k hlt), Result.andThen_ok, run_part_plain w hp (intC_get ys k (by omega)), Result.andThen_ok]
    rw [run_equalIn_int w d f.type .i64 .i64 _ _ hu, Result.andThen_ok, List.length_cons, List.range_succ_eq_map, List.all_cons, List.all_map]
    cases hb : (xs.getD k 0 == ys.getD k 0)
    · simp [hb]
    · simp only [Nat.add_zero, hb, Bool.true_and]
      have e : ((fun j => xs.getD (k + j) 0 == ys.getD (k + j) 0) ∘ Nat.succ) = fun j => xs.getD (k + 1 + j) 0 == ys.getD (k + 1 + j) 0 := by
        funext j
        show (xs.getD (k + (j + 1)) 0 == ys.getD (k + (j + 1)) 0) = _
        rw [show k + (j + 1) = k + 1 + j from by omega]
      rw [e]
      simpa using ih

/-- The fields of a struct of n integers. -/
def intFields (P : Program) (n : Nat) : Nat → List Field → Bool
  | k, [] => k == n
  | k, f :: fs => f.name != "_" && f.offset == k && (match P.underlying f.type with | some (.int .i64) => true | _ => false) && P.plainKey f.type && intFields P n (k + 1) fs
theorem intFields_ok {n : Nat} : ∀ (fs : List Field) (k : Nat), intFields P n k fs = true → k + fs.length = n ∧ ∀ (j : Nat) (f : Field), fs[j]? = some f → f.name ≠ "_" ∧ f.offset = k + j ∧ P.underlying f.type = some (.int .i64) ∧ P.plainKey f.type = true
  | [], k, h => by simp [intFields] at h; exact ⟨by simpa using h, fun j f hf => by simp at hf⟩
  | f :: fs, k, h => by
    simp only [intFields, Bool.and_eq_true, bne_iff_ne, beq_iff_eq] at h
    obtain ⟨⟨⟨⟨h1, h2⟩, h3⟩, h4⟩, h5⟩ := h
    obtain ⟨g1, g2⟩ := intFields_ok fs (k + 1) h5
    refine ⟨by simp; omega, fun j g hg => ?_⟩
    cases j with
    | zero =>
      simp at hg
      subst hg
      refine ⟨h1, by omega, ?_, h4⟩
      split at h3
      · assumption
      · cases h3
    | succ j =>
      obtain ⟨a, b, c⟩ := g2 j g (by simpa using hg)
      exact ⟨a, by omega, c⟩

theorem eq_struct (w : World) {t : TypeId} {fs : Array Field} {n : Nat} (hu : P.underlying t = some (.struct fs)) (hh : P.stoodInHeld t = false) (hf : intFields P n 0 fs.toList = true)
    (xs ys : List Int) (h1 : xs.length = n) (h2 : ys.length = n) : (Op.equalIn 10000 t (.agg (intC xs)) (.agg (intC ys))).run P w = .ok (decide (xs = ys)) w := by
  obtain ⟨g1, g2⟩ := intFields_ok _ _ hf
  have hfs : P.fieldsOf t = fs := by unfold Program.fieldsOf; rw [hu]
  rw [run_equalIn_agg w 9999 _ _ _ (by rw [hfs]; exact hu) hh, hfs]
  rw [eqFields_ints w 9998 xs ys (by omega) fs.toList 0 fun j f hj => by
    obtain ⟨a, b, c, e⟩ := g2 j f hj
    have := (List.getElem?_eq_some_iff.1 hj).1
    exact ⟨a, b, by omega, c, e⟩]
  have := all_range_eq xs ys n h1 h2
  simp only [Nat.zero_add] at g1 ⊢
  rw [g1, this]
end
end Go.Proofs.YtpinhomalmknjaaDoor
/- The law's alike. -/
namespace Go.Proofs.YtpinhomalmknjaaDoor
open Go.RowKit Go.Sort Go.Shelf
set_option linter.unusedVariables false
set_option linter.unusedSimpArgs false
set_option maxRecDepth 100000

theorem six_ne (a b c d e f a' b' c' d' e' f' : Int) (w : World) : (binOp .neq 87 (.agg #[.int .i64 a, .int .i64 b, .int .i64 c, .int .i64 d, .int .i64 e, .int .i64 f]) (.agg #[.int .i64 a', .int .i64 b', .int .i64 c', .int .i64 d', .int .i64 e', .int .i64 f'])).run Tryd.prog w
    = .ok (.bool (!decide ([a, b, c, d, e, f] = [a', b', c', d', e', f']))) w := by
  obtain ⟨i, hi⟩ : ∃ i, Tryd.prog.info? 3 = some i := by have := infoInt; cases h : Tryd.prog.info? 3 with | none => rw [h] at this; cases this | some i => exact ⟨i, rfl⟩
  rw [run_neq_struct]
  have := eq_array (P := Tryd.prog) w (t := 87) Tryd.underlying87 hi Tryd.underlying3 (by kernel_rfl) (by kernel_rfl) [a, b, c, d, e, f] [a', b', c', d', e', f'] rfl rfl
  unfold intC at this
  simp only [List.map_cons, List.map_nil] at this
  rw [this]
  rfl
theorem rline_ne (a b c a' b' c' : Int) (w : World) : (binOp .neq 91 (.agg #[.int .i64 a, .int .i64 b, .int .i64 c]) (.agg #[.int .i64 a', .int .i64 b', .int .i64 c'])).run Tryd.prog w
    = .ok (.bool (!decide (([a, b, c] : List Int) = [a', b', c']))) w := by
  obtain ⟨i, hi⟩ : ∃ i, Tryd.prog.info? 3 = some i := by have := infoInt; cases h : Tryd.prog.info? 3 with | none => rw [h] at this; cases this | some i => exact ⟨i, rfl⟩
  rw [run_neq_struct]
  have := eq_array (P := Tryd.prog) w (t := 91) Tryd.underlying91 hi Tryd.underlying3 (by kernel_rfl) (by kernel_rfl) [a, b, c] [a', b', c'] rfl rfl
  unfold intC at this
  simp only [List.map_cons, List.map_nil] at this
  rw [this]
  rfl

def Six.nums (s : Six) : List Int := [s.con, s.day, s.cur, s.seq, s.per, s.ref]
theorem lnl_eq {l m : Ln} : ([l.p, l.c, l.a] : List Int) = [m.p, m.c, m.a] ↔ l = m := by
  obtain ⟨a, b, c⟩ := l
  obtain ⟨a', b', c'⟩ := m
  simp

set_option maxHeartbeats 16000000 in
theorem alike_ok (s t : Six) (a b : Option Addr) (ca cb : Nat) (xs ys : List Ln) (w : World) (hx : LnAt w a xs) (hy : LnAt w b ys) (hl : xs.length ≤ 1000) (hm : ys.length ≤ 1000) :
    Calls Tryd.prog 59 #[entV s a xs.length ca, entV t b ys.length cb] w fun e w' => e = .returned (.bool (decide (s.nums = t.nums ∧ xs = ys))) ∧ Below w.heap.size w w' := by
  obtain ⟨wa, hwa⟩ : ∃ wa, w.alloc (.cells (entCs s a xs.length ca) 90) = wa := ⟨_, rfl⟩
  obtain ⟨wb, hwb⟩ : ∃ wb, wa.alloc (.cells (entCs t b ys.length cb) 90) = wb := ⟨_, rfl⟩
  have k0 : Blk wa w.heap.size (entCs s a xs.length ca) 90 := by rw [← hwa]; exact Blk.new _ _ _
  have k1 : Blk wb wa.heap.size (entCs t b ys.length cb) 90 := by rw [← hwb]; exact Blk.new _ _ _
  have ba : Below w.heap.size w wa := by rw [← hwa]; exact (Below.refl _ _).alloc (Nat.le_refl _) _
  have bb : Below wa.heap.size wa wb := by rw [← hwb]; exact (Below.refl _ _).alloc (Nat.le_refl _) _
  have K0 := Lib.hid (k0.after bb)
  have K1 := Lib.hid k1
  have hbw : Below w.heap.size w wb := ba.trans (bb.mono ba.size)
  have hn6 := six_ne s.con s.day s.cur s.seq s.per s.ref t.con t.day t.cur t.seq t.per t.ref
  have HN : Hid ([s.con, s.day, s.cur, s.seq, s.per, s.ref] = s.nums ∧ [t.con, t.day, t.cur, t.seq, t.per, t.ref] = t.nums) := ⟨rfl, rfl⟩
  rw [HN.out.1, HN.out.2] at hn6
  have HXY := Lib.hid (at_eq_list xs ys)
  have HX := Lib.hid hx
  have HY := Lib.hid hy
  simp only [entCs] at hwa hwb
  have p0 : wb.cell? ⟨w.heap.size, 0, none⟩ = some (.int .i64 s.con) := K0.out.cell 0 rfl
  have p1 : wb.cell? ⟨w.heap.size, 1, none⟩ = some (.int .i64 s.day) := K0.out.cell 1 rfl
  have p2 : wb.cell? ⟨w.heap.size, 2, none⟩ = some (.int .i64 s.cur) := K0.out.cell 2 rfl
  have p3 : wb.cell? ⟨w.heap.size, 3, none⟩ = some (.int .i64 s.seq) := K0.out.cell 3 rfl
  have p4 : wb.cell? ⟨w.heap.size, 4, none⟩ = some (.int .i64 s.per) := K0.out.cell 4 rfl
  have p5 : wb.cell? ⟨w.heap.size, 5, none⟩ = some (.int .i64 s.ref) := K0.out.cell 5 rfl
  have p6 : wb.cell? ⟨w.heap.size, 6, none⟩ = some (.slice a xs.length ca) := K0.out.cell 6 rfl
  have q0 : wb.cell? ⟨wa.heap.size, 0, none⟩ = some (.int .i64 t.con) := K1.out.cell 0 rfl
  have q1 : wb.cell? ⟨wa.heap.size, 1, none⟩ = some (.int .i64 t.day) := K1.out.cell 1 rfl
  have q2 : wb.cell? ⟨wa.heap.size, 2, none⟩ = some (.int .i64 t.cur) := K1.out.cell 2 rfl
  have q3 : wb.cell? ⟨wa.heap.size, 3, none⟩ = some (.int .i64 t.seq) := K1.out.cell 3 rfl
  have q4 : wb.cell? ⟨wa.heap.size, 4, none⟩ = some (.int .i64 t.per) := K1.out.cell 4 rfl
  have q5 : wb.cell? ⟨wa.heap.size, 5, none⟩ = some (.int .i64 t.ref) := K1.out.cell 5 rfl
  have q6 : wb.cell? ⟨wa.heap.size, 6, none⟩ = some (.slice b ys.length cb) := K1.out.cell 6 rfl
  clear k0 k1 ba bb hx hy
  unfold entV
  by_cases hnum : s.nums = t.nums
  · rw [decide_eq_true hnum] at hn6
    have HNUM := Lib.hid hnum
    clear hnum
    by_cases hlen : xs.length = ys.length
    · obtain ⟨n, hN⟩ : ∃ n, ys.length = n := ⟨_, rfl⟩
      have HL1 := Lib.hid (hlen.trans hN)
      have HL2 := Lib.hid hN
      rw [hN] at hlen hm q6 hwb
      rw [hN]
      rw [hlen] at hl p6 hwa
      rw [hlen]
      clear hlen hN
      go_enter Tryd.func59, Tryd.ntmps59
      go_wp2_with (go_quiet (fail))
      clear hwa hwb hn6 p0 p1 p2 p3 p4 p5 p6 q0 q1 q2 q3 q4 q5 q6
      go_loopw [5] (fun i wr => ∃ k : Nat, k ≤ n ∧ i = .int .i64 k ∧ (∀ j, j < k → Ln.at xs j = Ln.at ys j) ∧ Below wb.heap.size wb wr) (fun i _ => n - (intOf i).toNat)
      case atStart => exact ⟨0, by omega, rfl, fun j hj => absurd hj (by omega), by first | exact Below.refl _ _ | exact below_draws _ _⟩
      case round =>
        obtain ⟨k, hk, rfl, hall, hbl⟩ := hrel
        have HA := Lib.hid hall
        clear hall
        have p6 : wr.cell? ⟨w.heap.size, 6, none⟩ = some (.slice a n ca) := by rw [← HL1.out]; exact (K0.out.after hbl).cell 6 rfl
        have q6 : wr.cell? ⟨wa.heap.size, 6, none⟩ = some (.slice b n cb) := by rw [← HL2.out]; exact (K1.out.after hbl).cell 6 rfl
        have hend : Below w.heap.size w wr := hbw.trans (hbl.mono hbw.size)
        by_cases hlt : k < n
        · obtain ⟨ba, oa, rfl, hca⟩ := HX.out.after hend (by have := HL1.out; omega)
          obtain ⟨bb, ob, rfl, hcb⟩ := HY.out.after hend (by have := HL2.out; omega)
          obtain ⟨c0, c1, c2⟩ := hca k (by have := HL1.out; omega)
          obtain ⟨d0, d1, d2⟩ := hcb k (by have := HL2.out; omega)
          have i1 : (0 : Int) ≤ (k : Int) := by omega
          have i2 : (k : Int) < (n : Int) := by omega
          have hne := rline_ne (Ln.at xs k).p (Ln.at xs k).c (Ln.at xs k).a (Ln.at ys k).p (Ln.at ys k).c (Ln.at ys k).a
          clear hca hcb
          by_cases he : Ln.at xs k = Ln.at ys k
          · have HE := Lib.hid he
            rw [decide_eq_true (lnl_eq.2 he)] at hne
            clear he
            go_wp2_with (go_quiet (fail))
            go_roundw
            case rel => exact ⟨k + 1, by omega, by go_num, fun j hj => by
              rcases Nat.lt_or_ge j k with g | g
              · exact HA.out j g
              · obtain rfl : j = k := by omega
                exact HE.out, hbl.trans (below_draws _ _)⟩
            case measure => simp [intOf]; omega
          · have HE := Lib.hid he
            rw [decide_eq_false (fun h => he (lnl_eq.1 h))] at hne
            clear he
            go_wp2_with (go_quiet (fail))
            go_ret
            exact ⟨ret_bool (by rw [eq_comm, decide_eq_false_iff_not]; exact fun h => HE.out (by rw [h.2])), hend.trans (below_draws _ _)⟩
        · obtain rfl : k = n := by omega
          go_wp2_with fail
          go_ret
          exact ⟨ret_bool (by rw [eq_comm, decide_eq_true_iff]; exact ⟨HNUM.out, HXY.out (HL1.out.trans HL2.out.symm) fun j hj => HA.out j (by have := HL1.out; omega)⟩), hend⟩
    · have h1 : ((xs.length : Int) != (ys.length : Int)) = true := by rw [bne_iff_ne]; omega
      have h2 : (xs.length != ys.length) = true := by rw [bne_iff_ne]; omega
      have HL := Lib.hid hlen
      clear hlen
      go_enter Tryd.func59, Tryd.ntmps59
      go_wp2_with (go_quiet (fail))
      go_ret
      exact ⟨ret_bool (by rw [eq_comm, decide_eq_false_iff_not]; exact fun h => HL.out (by rw [h.2])), by first | exact hbw | exact hbw.trans (below_draws _ _)⟩
  · rw [decide_eq_false hnum] at hn6
    have HNUM := Lib.hid hnum
    clear hnum
    go_enter Tryd.func59, Tryd.ntmps59
    go_wp2_with (go_quiet (fail))
    go_ret
    exact ⟨ret_bool (by rw [eq_comm, decide_eq_false_iff_not]; exact fun h => HNUM.out h.1), by first | exact hbw | exact hbw.trans (below_draws _ _)⟩


end Go.Proofs.YtpinhomalmknjaaDoor
/- The document's ledger: Live. -/
namespace Go.Proofs.YtpinhomalmknjaaDoor
open Go.RowKit Go.Sort Go.Shelf
set_option linter.unusedVariables false
set_option linter.unusedSimpArgs false
set_option maxRecDepth 100000

def lvK (L : List EnP) (con : Int) (k : Nat) : List Int := (((idxP L).take k).filter (keepB L con)).map Prod.fst
theorem lvK_succ {L : List EnP} {con : Int} {k : Nat} {e : EnP} (he : L[k]? = some e) : lvK L con (k + 1) = lvK L con k ++ if (revI L (k : Int)).isNone = true ∧ e.s.ref = -1 ∧ e.s.con = con then [(k : Int)] else [] := by
  unfold lvK
  obtain ⟨hj, hje⟩ := List.getElem?_eq_some_iff.1 (idxP_get he)
  rw [List.take_succ_eq_append_getElem hj, List.filter_append, List.map_append, hje]
  congr 1
  by_cases h : (revI L (k : Int)).isNone = true ∧ e.s.ref = -1 ∧ e.s.con = con
  · rw [if_pos h]
    have : keepB L con ((k : Int), e) = true := by unfold keepB; simp [h.1, h.2.1, h.2.2]
    simp [List.filter_cons, this]
  · rw [if_neg h]
    have : keepB L con ((k : Int), e) = false := by
      unfold keepB
      rw [Bool.eq_false_iff]
      intro hh
      simp at hh
      exact h ⟨by simpa using hh.1.1, hh.1.2, hh.2⟩
    simp [List.filter_cons, this]
theorem lvK_no {L : List EnP} {con : Int} {k : Nat} {e : EnP} (he : L[k]? = some e) (h : ¬ ((revI L (k : Int)).isNone = true ∧ e.s.ref = -1 ∧ e.s.con = con)) : lvK L con (k + 1) = lvK L con k := by
  rw [lvK_succ he, if_neg h, List.append_nil]
theorem lvK_yes {L : List EnP} {con : Int} {k : Nat} {e : EnP} (he : L[k]? = some e) (h : (revI L (k : Int)).isNone = true ∧ e.s.ref = -1 ∧ e.s.con = con) : lvK L con (k + 1) = lvK L con k ++ [(k : Int)] := by
  rw [lvK_succ he, if_pos h]
theorem lvK_len (L : List EnP) (con : Int) (k : Nat) : (lvK L con k).length ≤ L.length := by
  unfold lvK
  rw [List.length_map]
  refine Nat.le_trans (List.length_filter_le _ _) ?_
  rw [List.length_take, idxP_len]
  omega
theorem lvK_all (L : List EnP) (con : Int) : lvK L con L.length = (liveP L con).map Prod.fst := by
  unfold lvK liveP
  rw [List.take_of_length_le (by rw [idxP_len]; exact Nat.le_refl _)]
def LiveREnd (w : World) (L : List EnP) (con : Int) (e : Ending) (w' : World) : Prop := ∃ c cap, e = .returned (.slice c (liveP L con).length cap) ∧ RowAt w' c (liveP L con).length (numV ((liveP L con).map Prod.fst)) ∧ Below w.heap.size w w'

set_option maxHeartbeats 16000000 in
theorem rlive_ok (qa : Nat) (a : Option Addr) (cap : Nat) (E : List En) (con : Int) (w : World) (h : RqAt w qa a cap E) (hl : E.length ≤ 1000) :
    Calls Tryd.prog 61 #[.pointer (some ⟨qa, 0, none⟩), .int .i64 con] w (LiveREnd w (E.map En.p) con) := by
  obtain ⟨i0, hi, hz0, hz1, hz2⟩ := info_parts infoInt2
  have H := Lib.hid h
  have c0 : w.cell? ⟨qa, 0, none⟩ = some (.slice a E.length cap) := h.blk.cell 0 rfl
  clear h
  go_enter Tryd.func61, Tryd.ntmps61
  go_wp2_with fail
  clear c0
  go_loopw [5, 6] (fun v i wr => ∃ k : Nat, k ≤ E.length ∧ i = .int .i64 k ∧ wr.ownsRow w.heap.size 3 1 v (lvK (E.map En.p) con k).length (intsV (lvK (E.map En.p) con k)) ∧ Below w.heap.size w wr) (fun _ i _ => E.length - (intOf i).toNat)
  case atStart => exact ⟨0, by omega, rfl, World.ownsRow_nil _ _ _ _, Below.refl _ _⟩
  case round =>
    obtain ⟨k, hk, rfl, hown, hbl⟩ := hrel
    have hQr := H.out.after hbl
    have c0 : wr.cell? ⟨qa, 0, none⟩ = some (.slice a E.length cap) := hQr.blk.cell 0 rfl
    by_cases hlt : k < E.length
    · obtain ⟨b, o, rfl, hbb, hcs⟩ := hQr.sl.at7 (by omega)
      have hcell := hcs k hlt
      have hE := at_get hlt
      have hlen := lvK_len (E.map En.p) con k
      have HBy := Lib.hid (rby_ok qa (some ⟨b, o, none⟩) cap E (k : Int) wr hQr (by omega))
      obtain ⟨X, hEE⟩ : ∃ X, En.at E k = X := ⟨_, rfl⟩
      rw [hEE] at hcell hE
      have HG := Lib.hid hE
      obtain ⟨⟨cn, day, cu, sq, pr, ref⟩, ea, ecap, els⟩ := X
      obtain ⟨e0, e1, e2, e3, e4, e5, e6⟩ := hcell
      dsimp only [En.p] at e0 e1 e2 e3 e4 e5 e6 HG
      obtain ⟨K, hKK⟩ : ∃ K, lvK (E.map En.p) con k = K := ⟨_, rfl⟩
      rw [hKK] at hown hlen
      have HK := Lib.hid hKK
      have hlen' : K.length ≤ 1000 := by rw [List.length_map] at hlen; omega
      have HOw := Lib.hid hown
      have HB := Lib.hid hbl
      have i1 : (0 : Int) ≤ (k : Int) := by omega
      have i2 : (k : Int) < (E.length : Int) := by omega
      clear hKK hE hlen hown hbl hcs hEE hQr e1 e2 e3 e4 e6
      by_cases h1 : cn = con
      case neg =>
        have g1 : (cn == con) = false := by rw [beq_eq_false_iff_ne]; exact h1
        have HT : Hid (lvK (E.map En.p) con (k + 1) = K) := by
          show _ = _
          rw [lvK_no HG.out (fun h => h1 h.2.2), HK.out]
        clear h1 HBy
        go_wp2_with fail
        go_roundw
        case rel => exact ⟨k + 1, by omega, by go_num, by rw [HT.out]; exact HOw.out, (HB.out)⟩
        case measure => simp [intOf]; omega
      subst h1
      have g1 : (cn == cn) = true := by simp
      by_cases h2 : ref = -1
      case neg =>
        have g2 : (ref == -1) = false := by rw [beq_eq_false_iff_ne]; exact h2
        have HT : Hid (lvK (E.map En.p) cn (k + 1) = K) := by
          show _ = _
          rw [lvK_no HG.out (fun h => h2 h.2.1), HK.out]
        clear h2 HBy
        go_wp2_with fail
        go_roundw
        case rel => exact ⟨k + 1, by omega, by go_num, by rw [HT.out]; exact HOw.out, (HB.out)⟩
        case measure => simp [intOf]; omega
      subst h2
      go_wp2_with fail
      with_reducible refine HBy.out.mono ?_
      rintro e w5 ⟨rfl, hb5⟩
      have HB5 := Lib.hid (HB.out.trans (hb5.mono HB.out.size))
      have ho5 := own_after HOw.out hb5
      clear HOw HB hb5 HBy c0 e0 e5
      have HOw := Lib.hid ho5
      clear ho5
      cases hv : revI (E.map En.p) (k : Int) with
      | some i =>
        have hbv : byV (E.map En.p) (k : Int) = (i : Int) := by unfold byV; rw [hv]
        rw [hbv]
        have g3 : decide ((i : Int) < 0) = false := decide_eq_false (by omega)
        have HT : Hid (lvK (E.map En.p) cn (k + 1) = K) := by
          show _ = _
          rw [lvK_no HG.out (fun h => by have h1 := h.1; rw [hv] at h1; cases h1), HK.out]
        clear hbv hv HK
        go_wp2_with fail
        go_roundw
        case rel => exact ⟨k + 1, by omega, by go_num, by rw [HT.out]; exact HOw.out, (HB5.out)⟩
        case measure => simp [intOf]; omega
      | none =>
        have hbv : byV (E.map En.p) (k : Int) = -1 := by unfold byV; rw [hv]
        rw [hbv]
        have HT : Hid (lvK (E.map En.p) cn (k + 1) = K ++ [(k : Int)]) := by show _ = _; rw [lvK_yes HG.out ⟨by rw [hv]; rfl, rfl, rfl⟩, HK.out]
        clear hbv hv HK
        go_wp2_with (at_builtin; refine wpList_append_own _ rfl _ _ 57 rfl w.heap.size 3 i0 (.int .i64 0) 1 8 Tryd.underlying57 hi hz0 hz1 hz2 rfl (by decide) _ _ _ rfl (HOw.out.alloc _) ⟨w5.heap.size, 0, none⟩ 1 1 [.int .i64 (k : Int)] rfl rfl (by have := news_one w5 (.int .i64 (k : Int)) 3; simpa using this) (by simp [Value.oneCell']) (by unfold maxLen; omega) (by omega) (by have := HB5.out.size; simp; omega) ?_; intro v' w6 hown' hgrow hgt)
        have hb6 : Below w.heap.size w w6 := (HB5.out.alloc HB5.out.size _).grown hgrow (by have := HB5.out.size; simp; omega) (fun q e => by have := (HOw.out.lt q e).1; omega)
        rw [← intsV_snoc] at hown'
        go_roundw
        case rel => exact ⟨k + 1, by omega, by go_num, by rw [HT.out, List.length_append]; exact hown', hb6⟩
        case measure => simp [intOf]; omega
    · obtain rfl : k = E.length := by omega
      obtain ⟨c, capc, rfl, hcl, _, _, _, _, hrow⟩ := owned_ints hown
      have hall := lvK_all (E.map En.p) con
      rw [List.length_map] at hall
      have hn : (lvK (E.map En.p) con E.length).length = (liveP (E.map En.p) con).length := by rw [hall, List.length_map]
      rw [hall] at hrow
      rw [List.length_map] at hrow
      have HFin : Hid (LiveREnd w (E.map En.p) con (.returned (.slice c (liveP (E.map En.p) con).length capc)) wr) := ⟨_, _, rfl, hrow, hbl⟩
      rw [hn]
      clear hrow hn hall hown hcl hbl hQr
      go_wp2_with fail
      go_ret
      exact HFin.out

end Go.Proofs.YtpinhomalmknjaaDoor
/- Is a ledger the document's?: same, in memory. -/
namespace Go.Proofs.YtpinhomalmknjaaDoor
open Go.RowKit Go.Sort Go.Shelf
set_option linter.unusedVariables false
set_option linter.unusedSimpArgs false
set_option maxRecDepth 100000

theorem SeqLEnd.listed {w w' : World} {E : List En} {con : Int} {e : Ending} (h : SeqLEnd w E con e w') (hl : E.length ≤ 200) : ∃ Bc Bk, e = .returned (.func (.func 51) #[] #[.pointer (some ⟨Bc, 0, none⟩), .pointer (some ⟨Bk, 0, none⟩)]) ∧ Below w.heap.size w w' ∧
    Calls Tryd.prog 23 #[.func (.func 51) #[] #[.pointer (some ⟨Bc, 0, none⟩), .pointer (some ⟨Bk, 0, none⟩)]] w' (ListEnd w' (liveP (E.map En.p) con)) := by
  obtain ⟨Bc, Bk, rfl, ⟨pv, hA⟩, hk, hb, hln⟩ := h
  have hz := hb.size
  refine ⟨Bc, Bk, rfl, hb, list_any 51 _ E.length _ _ w' hl (fun args w => by kernel_rfl) (fun w0 h0 => live_tells 4 (by omega) w'.heap.size Bc Bk E con (by omega) (fun e he x hx hl => Nat.lt_of_lt_of_le (hln e he x hx hl) hz) w0 ⟨pv, fun W hW => hA W (h0.trans hW)⟩ (fun W hW => hk W (h0.trans hW)) h0.size)⟩
/-- Both ledgers. -/
structure SmS (w : World) (p q : Nat) (ra : Option Addr) (rc n : Nat) (L : List EnP) (R : List En) : Prop where
  lg : ∃ bm a cap E, LgAt w p bm a cap E ∧ E.map En.p = L
  rq : RqAt w q ra rc R
  rp : R.map En.p = L
  wl : WL L
  len : L.length = n
  few : n ≤ 200
theorem SmS.rl {w : World} {p q : Nat} {ra : Option Addr} {rc n : Nat} {L : List EnP} {R : List En} (h : SmS w p q ra rc n L R) : R.length = n := by
  have := congrArg List.length h.rp
  rw [List.length_map, h.len] at this
  exact this
theorem SmS.all {w : World} {p q : Nat} {ra : Option Addr} {rc n : Nat} {L : List EnP} {R : List En} (h : SmS w p q ra rc n L R) : Calls Tryd.prog 24 #[.pointer (some ⟨p, 0, none⟩)] w fun e w' => ∃ Bc, e = .returned (.func (.func 50) #[] #[.pointer (some ⟨Bc, 0, none⟩)]) ∧ Below w.heap.size w w' ∧
    Calls Tryd.prog 23 #[.func (.func 50) #[] #[.pointer (some ⟨Bc, 0, none⟩)]] w' (ListEnd w' (idxP L)) := by
  obtain ⟨bm, a, cap, E, h1, h2⟩ := h.lg
  have hl : E.length ≤ 200 := by have h3 := congrArg List.length h2; have := h.len; have := h.few; rw [List.length_map] at h3; omega
  refine (lall_ok p bm a cap E w h1 (by omega)).mono ?_
  rintro e w' hA
  obtain ⟨Bc, rfl, hb, hLi⟩ := SeqAEnd.listed hA hl
  rw [h2] at hLi
  exact ⟨Bc, rfl, hb, hLi⟩
theorem SmS.lens {w V : World} {p q : Nat} {ra : Option Addr} {rc n : Nat} {L : List EnP} {R : List En} (h : SmS w p q ra rc n L R) (hV : Below w.heap.size w V) : Calls Tryd.prog 27 #[.pointer (some ⟨p, 0, none⟩)] V fun e w' => e = .returned (.int .i64 (n : Int)) ∧ w' = V := by
  obtain ⟨bm, a, cap, E, h1, h2⟩ := h.lg
  have := llen_ok p bm a cap E V (h1.after hV)
  rwa [show E.length = n by have h3 := congrArg List.length h2; rw [List.length_map, h.len] at h3; exact h3] at this
theorem SmS.seq {w V : World} {p q : Nat} {ra : Option Addr} {rc n : Nat} {L : List EnP} {R : List En} (h : SmS w p q ra rc n L R) (hV : Below w.heap.size w V) : Calls Tryd.prog 28 #[.pointer (some ⟨p, 0, none⟩)] V fun e w' => e = .returned (.int .i64 (seqOf L)) ∧ Below V.heap.size V w' := by
  obtain ⟨bm, a, cap, E, h1, h2⟩ := h.lg
  have hl : E.length ≤ 200 := by have h3 := congrArg List.length h2; have := h.len; have := h.few; rw [List.length_map] at h3; omega
  have := lseq_ok p bm a cap E V (h1.after hV) (by omega)
  rwa [h2] at this
theorem SmS.rseq {w V : World} {p q : Nat} {ra : Option Addr} {rc n : Nat} {L : List EnP} {R : List En} (h : SmS w p q ra rc n L R) (hV : Below w.heap.size w V) : Calls Tryd.prog 57 #[.pointer (some ⟨q, 0, none⟩)] V fun e w' => e = .returned (.int .i64 (seqOf L)) ∧ Below V.heap.size V w' := by
  have := rseq_ok q ra rc R V (h.rq.after hV) (by have := h.rl; have := h.few; omega)
  rwa [h.rp] at this
theorem SmS.ent {w V : World} {p q : Nat} {ra : Option Addr} {rc n : Nat} {L : List EnP} {R : List En} (h : SmS w p q ra rc n L R) (hV : Below w.heap.size w V) (k : Nat) (x : EnP) (hx : L[k]? = some x) : Calls Tryd.prog 21 #[.pointer (some ⟨p, 0, none⟩), .int .i64 (k : Int)] V (EntEnd V x) := by
  obtain ⟨bm, a, cap, E, h1, h2⟩ := h.lg
  have hl : E.length ≤ 200 := by have h3 := congrArg List.length h2; have := h.len; have := h.few; rw [List.length_map] at h3; omega
  have hk : k < E.length := by rw [← h2] at hx; have := (List.getElem?_eq_some_iff.1 hx).1; rw [List.length_map] at this; exact this
  have := lent_in p bm a cap E V (h1.after hV) (by omega) k (En.at E k) (by unfold En.at; rw [List.getD_eq_getElem?_getD, List.getElem?_eq_getElem hk]; rfl)
  rwa [show (En.at E k).p = x by rw [← h2, at_get hk] at hx; exact Option.some.inj hx] at this
theorem SmS.out {w V : World} {p q : Nat} {ra : Option Addr} {rc n : Nat} {L : List EnP} {R : List En} (h : SmS w p q ra rc n L R) (hV : Below w.heap.size w V) (no : Int) (hno : no < 0 ∨ (n : Int) ≤ no) : Calls Tryd.prog 21 #[.pointer (some ⟨p, 0, none⟩), .int .i64 no] V (NoEnt V 16) := by
  obtain ⟨bm, a, cap, E, h1, h2⟩ := h.lg
  have hl : E.length = n := by have h3 := congrArg List.length h2; rw [List.length_map, h.len] at h3; exact h3
  exact lent_out p bm a cap E V (h1.after hV) no (by rw [hl]; exact hno)
theorem SmS.rev {w V : World} {p q : Nat} {ra : Option Addr} {rc n : Nat} {L : List EnP} {R : List En} (h : SmS w p q ra rc n L R) (hV : Below w.heap.size w V) (no rv : Int) (rb : Bool) (hwf : (Lit.int .i64 no).wf = true) (h1 : rv = (match revI L no with | some i => (i : Int) | none => 0)) (h2 : rb = (revI L no).isSome) :
    Calls Tryd.prog 22 #[.pointer (some ⟨p, 0, none⟩), .int .i64 no] V fun e w' => e = .returned (.tuple #[.int .i64 rv, .bool rb]) ∧ w' = V := by
  obtain ⟨bm, a, cap, E, k1, k2⟩ := h.lg
  refine (lrev_ok p bm a cap E no V (k1.after hV) (by rw [k2]; exact h.wl) hwf).mono ?_
  rintro e w' ⟨rfl, hw⟩
  refine ⟨?_, hw⟩
  rw [h1, h2, k2]
  cases revI L no <;> rfl
theorem SmS.by' {w V : World} {p q : Nat} {ra : Option Addr} {rc n : Nat} {L : List EnP} {R : List En} (h : SmS w p q ra rc n L R) (hV : Below w.heap.size w V) (no : Int) : Calls Tryd.prog 58 #[.pointer (some ⟨q, 0, none⟩), .int .i64 no] V fun e w' => e = .returned (.int .i64 (byV L no)) ∧ Below V.heap.size V w' := by
  have := rby_ok q ra rc R no V (h.rq.after hV) (by have := h.rl; have := h.few; omega)
  rwa [h.rp] at this
theorem SmS.live {w V : World} {p q : Nat} {ra : Option Addr} {rc n : Nat} {L : List EnP} {R : List En} (h : SmS w p q ra rc n L R) (hV : Below w.heap.size w V) (con : Int) : Calls Tryd.prog 25 #[.pointer (some ⟨p, 0, none⟩), .int .i64 con] V fun e w' => ∃ Bc Bk, e = .returned (.func (.func 51) #[] #[.pointer (some ⟨Bc, 0, none⟩), .pointer (some ⟨Bk, 0, none⟩)]) ∧ Below V.heap.size V w' ∧
    Calls Tryd.prog 23 #[.func (.func 51) #[] #[.pointer (some ⟨Bc, 0, none⟩), .pointer (some ⟨Bk, 0, none⟩)]] w' (ListEnd w' (liveP L con)) := by
  obtain ⟨bm, a, cap, E, k1, k2⟩ := h.lg
  have hl : E.length ≤ 200 := by have h3 := congrArg List.length k2; have := h.len; have := h.few; rw [List.length_map] at h3; omega
  refine (llive_ok p bm a cap E con V (k1.after hV) (by omega) (by rw [k2]; exact h.wl)).mono ?_
  rintro e w' hA
  obtain ⟨Bc, Bk, rfl, hb, hLi⟩ := SeqLEnd.listed hA hl
  rw [k2] at hLi
  exact ⟨Bc, Bk, rfl, hb, hLi⟩
theorem SmS.rlive {w V : World} {p q : Nat} {ra : Option Addr} {rc n : Nat} {L : List EnP} {R : List En} (h : SmS w p q ra rc n L R) (hV : Below w.heap.size w V) (con : Int) : Calls Tryd.prog 61 #[.pointer (some ⟨q, 0, none⟩), .int .i64 con] V (LiveREnd V L con) := by
  have := rlive_ok q ra rc R con V (h.rq.after hV) (by have := h.rl; have := h.few; omega)
  rwa [h.rp] at this
/-- What By and Reversed tell goes together. -/
theorem by_vals (L : List EnP) (no : Int) : ∃ (bv rv : Int) (rb : Bool), byV L no = bv ∧ rv = (match revI L no with | some i => (i : Int) | none => 0) ∧ rb = (revI L no).isSome ∧ decide (0 ≤ bv) = rb ∧ max 0 bv = rv := by
  refine ⟨_, _, _, rfl, rfl, rfl, ?_, ?_⟩
  · unfold byV
    cases revI L no with
    | none => rfl
    | some i => simp
  · unfold byV
    cases revI L no with
    | none => rfl
    | some i =>
      simp only
      omega
theorem live_get {L : List EnP} {con : Int} {j : Nat} {z : Int × EnP} (h : (liveP L con)[j]? = some z) : ∃ t : Nat, z.1 = (t : Int) ∧ L[t]? = some z.2 := by
  have hm := List.mem_of_getElem? h
  unfold liveP at hm
  have hm2 := (List.mem_filter.1 hm).1
  unfold idxP at hm2
  obtain ⟨⟨e, t⟩, hy, rfl⟩ := List.mem_map.1 hm2
  have := List.mk_mem_zipIdx_iff_getElem?.1 hy
  exact ⟨t, rfl, this⟩
/-- Alike, where two are the same. -/
theorem alike_same (s : Six) (a b : Option Addr) (ca cb : Nat) (xs : List Ln) (w : World) (hx : LnAt w a xs) (hy : LnAt w b xs) (hl : xs.length ≤ 1000) :
    Calls Tryd.prog 59 #[entV s a xs.length ca, entV s b xs.length cb] w fun e w' => e = .returned (.bool true) ∧ Below w.heap.size w w' := by
  have := alike_ok s s a b ca cb xs xs w hx hy hl hl
  rwa [decide_eq_true ⟨rfl, rfl⟩] at this
theorem at_p {Z : List En} {L : List EnP} {k : Nat} {x : EnP} (h : Z.map En.p = L) (hx : L[k]? = some x) : k < Z.length ∧ (En.at Z k).p = x := by
  rw [← h] at hx
  have hk : k < Z.length := by have := (List.getElem?_eq_some_iff.1 hx).1; rw [List.length_map] at this; exact this
  rw [at_get hk] at hx
  exact ⟨hk, Option.some.inj hx⟩

end Go.Proofs.YtpinhomalmknjaaDoor
