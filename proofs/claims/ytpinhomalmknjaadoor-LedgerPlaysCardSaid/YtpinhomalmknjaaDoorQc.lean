/- append(nil, x...) in a drawn region, of records. -/
import Derived.Test.YtpinhomalmknjaaDoorApp
import Derived.Deep.AppendLies
import Derived.Laws.AppendOwnNone
import Derived.Test.YtpinhomalmknjaaDoorQa
import Derived.Test.YtpinhomalmknjaaDoorQb
import Derived.Deep.RegionHeld3
import Derived.StillTailTactics
namespace Go.Proofs.YtpinhomalmknjaaDoor
open Go.RowKit Go.Sort
set_option linter.unusedVariables false
set_option linter.unusedSimpArgs false

theorem step_append_new {α : Type} [Inhabited α] {P : Program} {w : World} {size : Nat} {enc : α → List Value} {ops : Array Oper} {o : Oper} {a : Act} {K : Act → World → Prop} {Q : Exit → Act → World → Prop} {E : Prop} (hgd : o.guard = none) (s x : Operand) (t : TypeId)
    (ho : o.op = .call { callee := .builtin .append, args := #[s, x], argTypes := #[t, t] })
    (base : Nat) (e : TypeId) (i : TypeInfo) (z : Value) (bytes : Nat) (ht : P.underlying t = some (.slice e)) (hi : P.info? e = some i) (hz : i.zero = some z)
    (hsize : i.size = size) (hby : i.bytes = bytes) (hzs : z.cells.size = size) (hsz : 0 < size) (hs0 : ∀ x, (enc x).length = size) (h1 : ∀ x, ∀ u ∈ enc x, u.oneCell' = true)
    (hs : a.eval s = .slice none 0 0)
    (c : Option Addr) (cap n : Nat) (ys : List α) (hn : n = ys.length) (hx : a.eval x = .slice c n cap) (hR : RecsAt w c size enc ys) (hc : n = 0 → c = none ∧ cap = 0)
    (h63 : n ≤ maxLen) (hbytes : n * bytes ≤ 140737488355328) (hbase : base ≤ w.heap.size)
    (h : ∀ c' cap' w', w'.ownsRow base e size (.slice c' n cap') n (cellsL enc ys) → Below w.heap.size w w' → (n = 0 → c' = none ∧ cap' = 0) → K (a.put o.dst (.slice c' n cap')) w') :
    if Region.wanted o (yielded ops a.tmps) = true then Oper.wp P o a w K Q else E := by
  subst hn
  by_cases hl : ys.length = 0
  · obtain ⟨rfl, rfl⟩ := hc hl
    obtain rfl : ys = [] := List.length_eq_zero_iff.1 hl
    have hw : Region.wanted o (yielded ops a.tmps) = true := by simp [Region.wanted, hgd]
    rw [if_pos hw]
    have hrun := run_append_owned_none (P := P) (w := w) base t o.type e i size ht hi (.slice none 0 0) 0 [] (World.ownsRow_nil w base e size)
    have hx' : a.eval x = .slice none 0 0 := hx
    unfold Oper.wp
    simp [execOp, ho, resolve, invoke, builtin, hs, hx', hrun, Result.andThen]
    exact h none 0 w (World.ownsRow_nil w base e size) (Below.refl _ _) (fun _ => ⟨rfl, rfl⟩)
  · obtain ⟨b, o', rfl, _⟩ := hR (by omega)
    refine step_append_lies w hgd s x t ho base e i z size bytes ht hi hz hsize hby hzs hsz (.slice none 0 0) 0 [] hs (World.ownsRow_nil w base e size) ⟨b, o', none⟩ ys.length cap (cellsL enc ys) hx (cellsL_len hs0 ys) (RecsAt.src hR hs0 rfl) (cellsL_one h1 ys) (by omega) (by omega) (by rw [Nat.zero_add]; exact hbytes) hbase w.heap.size rfl fun g cap' w' g1 g2 g3 g4 => ?_
    rw [Nat.zero_add] at g1 ⊢
    exact h (some ⟨g, 0, none⟩) cap' w' g1 ((Below.refl _ w).grown g2 (Nat.le_refl _) (fun q e => by cases e)) (fun e => absurd e hl)
end Go.Proofs.YtpinhomalmknjaaDoor
/- The document's ledger: wrong. -/
namespace Go.Proofs.YtpinhomalmknjaaDoor
open Go.RowKit Go.Sort Go.Shelf
set_option linter.unusedVariables false
set_option linter.unusedSimpArgs false
set_option maxRecDepth 100000

/-- The document's Check, of an entry that lies in a box. -/
structure WBox (w : World) (B : Nat) (s : Six) (la : Option Addr) (n lc : Nat) (W : World) : Prop where
  be : Below w.heap.size w W
  bx : EBox W B s la n lc

set_option maxHeartbeats 8000000 in
theorem rwr_main (q : Nat) (a : Option Addr) (cap : Nat) (E : List En) (con day cur seq per ref : Int) (la : Option Addr) (lc : Nat) (ls : List Ln) (w : World) (h : RqAt w q a cap E) (hl : E.length ≤ 1000000) (hw : WL (E.map En.p)) (hX : EnOk w ⟨⟨con, day, cur, seq, per, ref⟩, la, lc, ls⟩) :
    Calls Tryd.prog 65 #[.pointer (some ⟨q, 0, none⟩), entV ⟨con, day, cur, seq, per, ref⟩ la ls.length lc] w (CkEnd w (wrongE (E.map En.p) ⟨⟨con, day, cur, seq, per, ref⟩, ls⟩)) := by
  obtain ⟨R, hRR⟩ : ∃ R : Int, wrongE (E.map En.p) ⟨⟨con, day, cur, seq, per, ref⟩, ls⟩ = R := ⟨_, rfl⟩
  rw [hRR]
  obtain ⟨wa, hwa⟩ : ∃ wa, w.alloc (.cells (entCs ⟨con, day, cur, seq, per, ref⟩ la ls.length lc) 90) = wa := ⟨_, rfl⟩
  have hba : Below w.heap.size w wa := by rw [← hwa]; exact (Below.refl _ _).alloc (Nat.le_refl _) _
  have hkb : Blk wa w.heap.size (entCs ⟨con, day, cur, seq, per, ref⟩ la ls.length lc) 90 := by rw [← hwa]; exact Blk.new _ _ _
  have hck := refcheck_ok ⟨con, day, cur, seq, per, ref⟩ la lc ls wa (hX.ln.after hba) (Nat.le_trans hX.few (by omega)) hX.wf
  have HMi : Hid (∀ W x, x ∈ E → Below w.heap.size w W → checkE ⟨con, day, cur, seq, per, ref⟩ ls = 0 → Calls Tryd.prog 72 #[entV x.s x.a x.ls.length x.cap, entV ⟨con, day, cur, seq, per, ref⟩ la ls.length lc] W fun e w' => e = .returned (.bool (mirB x.p ⟨⟨con, day, cur, seq, per, ref⟩, ls⟩)) ∧ Below W.heap.size W w') := fun W x hx hb hc => by
    have hcx : checkE x.s x.ls = 0 := hw.ck x.p (List.mem_map_of_mem hx)
    exact rmir_ok x.p ⟨⟨con, day, cur, seq, per, ref⟩, ls⟩ x.a la x.cap lc W ((h.ok x hx).ln.after hb) (hX.ln.after hb) (h.ok x hx).few hX.few (fits_min (check_fits hcx) (h.ok x hx).wf) hX.wf
  have HBy : Hid (∀ W, Below w.heap.size w W → Calls Tryd.prog 58 #[.pointer (some ⟨q, 0, none⟩), .int .i64 ref] W fun e w' => e = .returned (.int .i64 (byV (E.map En.p) ref)) ∧ Below W.heap.size W w') := fun W hb => rby_ok q a cap E ref W (h.after hb) hl
  have HQ : Hid (∀ W, Below w.heap.size w W → RqAt W q a cap E) := fun W hb => h.after hb
  have HK : Hid (∀ W, Below w.heap.size w W → Below wa.heap.size wa W → W.cell? ⟨q, 0, none⟩ = some (.slice a E.length cap) ∧ W.cell? ⟨w.heap.size, 0, none⟩ = some (.int .i64 con) ∧ W.cell? ⟨w.heap.size, 1, none⟩ = some (.int .i64 day) ∧ W.cell? ⟨w.heap.size, 2, none⟩ = some (.int .i64 cur) ∧ W.cell? ⟨w.heap.size, 3, none⟩ = some (.int .i64 seq) ∧ W.cell? ⟨w.heap.size, 4, none⟩ = some (.int .i64 per) ∧ W.cell? ⟨w.heap.size, 5, none⟩ = some (.int .i64 ref) ∧ W.cell? ⟨w.heap.size, 6, none⟩ = some (.slice la ls.length lc)) := fun W hb hb' => by
    have hk := hkb.after hb'
    exact ⟨(h.after hb).blk.cell 0 rfl, hk.cell 0 rfl, hk.cell 1 rfl, hk.cell 2 rfl, hk.cell 3 rfl, hk.cell 4 rfl, hk.cell 5 rfl, hk.cell 6 rfl⟩
  have HRR := Lib.hid hRR
  have HBA := Lib.hid hba
  obtain ⟨c0, p0, p1, p2, p3, p4, p5, p6⟩ := HK.out wa hba (Below.refl _ _)
  have hbw := hba
  unfold entCs at hwa
  unfold entV at hck ⊢
  have HE : Hid (checkE ⟨con, day, cur, seq, per, ref⟩ ls = checkE ⟨con, day, cur, seq, per, ref⟩ ls) := rfl
  obtain ⟨C, hC⟩ : ∃ C, checkE ⟨con, day, cur, seq, per, ref⟩ ls = C := ⟨_, rfl⟩
  rw [hC] at hck
  have HC := Lib.hid hC
  have HCk := Lib.hid hck
  have HW := Lib.hid hw
  have HL := Lib.hid hl
  clear hRR h hw hX hba hkb hck hC HE hl hbw
  go_enter Tryd.func65, Tryd.ntmps65
  go_wp2_with fail
  clear hwa
  with_reducible refine HCk.out.mono ?_
  rintro e w1 ⟨rfl, hb1⟩
  have hB1 := HBA.out.trans (hb1.mono HBA.out.size)
  obtain ⟨c0, p0, p1, p2, p3, p4, p5, p6⟩ := HK.out w1 hB1 hb1
  have HB1 := Lib.hid hB1
  have Hb1 := Lib.hid hb1
  clear HCk hb1 hB1
  by_cases hc : C = 0
  case neg =>
    have g0 : (C != 0) = true := by rw [bne_iff_ne]; exact hc
    have HF : Hid (R = C) := by
      show _ = _
      rw [← HRR.out, ← HC.out]
      exact wrongE_bad (by rw [HC.out]; exact hc)
    clear hc
    go_wp2_with fail
    go_ret
    exact ⟨by rw [HF.out]; rfl, HB1.out⟩
  subst hc
  have hcn := check_nums HC.out
  dsimp only at hcn
  by_cases hr : ref = -1
  · have HF : Hid (R = 0) := by
      show _ = _
      rw [← HRR.out]
      exact wrongE_new HC.out hr
    subst hr
    go_wp2_with fail
    go_ret
    exact ⟨by rw [HF.out]; rfl, HB1.out⟩
  have d2 : (ref == -1) = false := by rw [beq_eq_false_iff_ne]; exact hr
  obtain ⟨j, hj⟩ : ∃ j : Nat, ref = (j : Int) := ⟨ref.toNat, by omega⟩
  have Hr := Lib.hid hr
  subst hj
  clear hr hcn
  by_cases hlt : j < E.length
  case neg =>
    have HF : Hid (R = 16) := by
      show _ = _
      rw [← HRR.out]
      exact wrongE_out HC.out Hr.out (by
        show (E.map En.p)[(j : Int).toNat]? = none
        rw [Int.toNat_natCast, List.getElem?_eq_none_iff, List.length_map]; omega)
    have g1 : decide ((E.length : Int) ≤ (j : Int)) = true := decide_eq_true (by omega)
    have g2 : decide (E.length ≤ j) = true := decide_eq_true (by omega)
    go_wp2_with (go_quiet (fail))
    go_ret
    exact ⟨by rw [HF.out]; rfl, HB1.out.trans (below_draws _ _ |>.mono HB1.out.size)⟩
  have HLt := Lib.hid hlt
  have g1 : decide ((E.length : Int) ≤ (j : Int)) = false := decide_eq_false (by omega)
  have g2 : decide (E.length ≤ j) = false := decide_eq_false (by omega)
  clear hlt
  go_wp2_with (go_quiet (fail))
  with_reducible refine (HBy.out _ (HB1.out.trans (below_draws _ _ |>.mono HB1.out.size))).mono ?_
  rintro e w2 ⟨rfl, hb2⟩
  have hd : Below w1.heap.size w1 (w1.drewN nq) := below_draws _ _
  have hB2 : Below w.heap.size w w2 := HB1.out.trans ((hd.trans (hb2.mono hd.size)).mono HB1.out.size)
  have hb2' : Below wa.heap.size wa w2 := Hb1.out.trans ((hd.trans (hb2.mono hd.size)).mono Hb1.out.size)
  have HB2 := Lib.hid hB2
  have Hb2 := Lib.hid hb2'
  clear c0 p0 p1 p2 p3 p4 p5 p6 hb2 hd HBy
  obtain ⟨b, o, rfl, hbb, hcs⟩ := (HQ.out w2 hB2).sl.at7 (by have := HLt.out; omega)
  obtain ⟨c0, p0, p1, p2, p3, p4, p5, p6⟩ := HK.out w2 hB2 hb2'
  have hO : (E.map En.p)[j]? = some (En.at E j).p := at_get HLt.out
  have hOm : En.at E j ∈ E := at_memE HLt.out
  have HSS : Hid (∀ W, Below w2.heap.size w2 W → W.cell? ⟨b, o + j * 7, none⟩ = some (.int .i64 (En.at E j).s.con) ∧ W.cell? ⟨b, o + j * 7 + 1, none⟩ = some (.int .i64 (En.at E j).s.day) ∧ W.cell? ⟨b, o + j * 7 + 2, none⟩ = some (.int .i64 (En.at E j).s.cur) ∧ W.cell? ⟨b, o + j * 7 + 3, none⟩ = some (.int .i64 (En.at E j).s.seq) ∧ W.cell? ⟨b, o + j * 7 + 4, none⟩ = some (.int .i64 (En.at E j).s.per) ∧ W.cell? ⟨b, o + j * 7 + 5, none⟩ = some (.int .i64 (En.at E j).s.ref) ∧ W.cell? ⟨b, o + j * 7 + 6, none⟩ = some (.slice (En.at E j).a (En.at E j).ls.length (En.at E j).cap)) := fun W hW => by
    obtain ⟨b', o', e', _, hc'⟩ := (HQ.out W (HB2.out.trans (hW.mono HB2.out.size))).sl.at7 (by have := HLt.out; omega)
    cases e'
    exact hc' j HLt.out
  have HMj : Hid (∀ W, Below w.heap.size w W → Calls Tryd.prog 72 #[entV (En.at E j).s (En.at E j).a (En.at E j).ls.length (En.at E j).cap, entV ⟨con, day, cur, seq, per, (j : Int)⟩ la ls.length lc] W fun e w' => e = .returned (.bool (mirB (En.at E j).p ⟨⟨con, day, cur, seq, per, (j : Int)⟩, ls⟩)) ∧ Below W.heap.size W w') := fun W hb => HMi.out W _ hOm hb HC.out
  have HRin : Hid (R = if (revI (E.map En.p) (j : Int)).isSome then 17 else if (En.at E j).s.ref ≠ -1 then 24 else if mirB (En.at E j).p ⟨⟨con, day, cur, seq, per, (j : Int)⟩, ls⟩ then 0 else 20) := by
    show _ = _
    rw [← HRR.out]
    exact wrongE_in (x := ⟨⟨con, day, cur, seq, per, (j : Int)⟩, ls⟩) (old := (En.at E j).p) HC.out Hr.out (by show (E.map En.p)[(j : Int).toNat]? = _; rw [Int.toNat_natCast]; exact hO)
  obtain ⟨⟨⟨x0, x1, x2, x3, x4, x5⟩, xa, xc, xl⟩, hX⟩ : ∃ e, En.at E j = e := ⟨_, rfl⟩
  rw [hX] at HSS HMj HRin
  dsimp only [entV, En.p] at HSS HMj HRin
  clear hcs hO hOm hX hB2 hb2' HMi
  have i1 : (0 : Int) ≤ (j : Int) := by omega
  have i2 : (j : Int) < (E.length : Int) := by have := HLt.out; omega
  cases hB : revI (E.map En.p) (j : Int) with
  | some i =>
    have HF : Hid (R = 17) := by
      show _ = _
      rw [HRin.out, hB]; rfl
    have hv : byV (E.map En.p) (j : Int) = (i : Int) := by unfold byV; rw [hB]
    rw [hv]
    have g3 : decide ((0 : Int) ≤ (i : Int)) = true := decide_eq_true (by omega)
    clear hv hB
    go_wp2_with fail
    go_ret
    exact ⟨by rw [HF.out]; rfl, HB2.out⟩
  | none =>
    rw [hB] at HRin
    have hv : byV (E.map En.p) (j : Int) = -1 := by unfold byV; rw [hB]
    rw [hv]
    clear hv hB
    have hbq : Below w2.heap.size w2 w2 := Below.refl _ _
    obtain ⟨q0, q1, q2, q3, q4, q5, q6⟩ := HSS.out w2 hbq
    clear hbq
    by_cases ho : x5 = -1
    case neg =>
      have g4 : (x5 != -1) = true := by rw [bne_iff_ne]; exact ho
      have HF : Hid (R = 24) := by
        show _ = _
        rw [HRin.out, if_neg (by simp)]
        exact if_pos ho
      clear ho
      go_wp2_with (go_quiet (fail))
      go_ret
      exact ⟨by rw [HF.out]; rfl, HB2.out.trans (below_draws _ _ |>.mono HB2.out.size)⟩
    subst ho
    have HS : Hid (∀ W, Below w2.heap.size w2 W → W.cell? ⟨q, 0, none⟩ = some (.slice (some ⟨b, o, none⟩) E.length cap) ∧ (W.cell? ⟨w.heap.size, 0, none⟩ = some (.int .i64 con) ∧ W.cell? ⟨w.heap.size, 1, none⟩ = some (.int .i64 day) ∧ W.cell? ⟨w.heap.size, 2, none⟩ = some (.int .i64 cur) ∧ W.cell? ⟨w.heap.size, 3, none⟩ = some (.int .i64 seq) ∧ W.cell? ⟨w.heap.size, 4, none⟩ = some (.int .i64 per) ∧ W.cell? ⟨w.heap.size, 5, none⟩ = some (.int .i64 (j : Int)) ∧ W.cell? ⟨w.heap.size, 6, none⟩ = some (.slice la ls.length lc)) ∧ W.cell? ⟨b, o + j * 7, none⟩ = some (.int .i64 x0) ∧ W.cell? ⟨b, o + j * 7 + 1, none⟩ = some (.int .i64 x1) ∧ W.cell? ⟨b, o + j * 7 + 2, none⟩ = some (.int .i64 x2) ∧ W.cell? ⟨b, o + j * 7 + 3, none⟩ = some (.int .i64 x3) ∧ W.cell? ⟨b, o + j * 7 + 4, none⟩ = some (.int .i64 x4) ∧ W.cell? ⟨b, o + j * 7 + 5, none⟩ = some (.int .i64 (-1)) ∧ W.cell? ⟨b, o + j * 7 + 6, none⟩ = some (.slice xa xl.length xc)) := fun W hW => by
      obtain ⟨a0, a1⟩ := HK.out W (HB2.out.trans (hW.mono HB2.out.size)) (Hb2.out.trans (hW.mono Hb2.out.size))
      exact ⟨a0, a1, HSS.out W hW⟩
    go_wp2_with fail
    have bd : Below w2.heap.size w2 w2.drew := (Below.refl _ _).drew
    go_region_held3 (fun W => W.cell? ⟨q, 0, none⟩ = some (.slice (some ⟨b, o, none⟩) E.length cap) ∧ (W.cell? ⟨w.heap.size, 0, none⟩ = some (.int .i64 con) ∧ W.cell? ⟨w.heap.size, 1, none⟩ = some (.int .i64 day) ∧ W.cell? ⟨w.heap.size, 2, none⟩ = some (.int .i64 cur) ∧ W.cell? ⟨w.heap.size, 3, none⟩ = some (.int .i64 seq) ∧ W.cell? ⟨w.heap.size, 4, none⟩ = some (.int .i64 per) ∧ W.cell? ⟨w.heap.size, 5, none⟩ = some (.int .i64 (j : Int)) ∧ W.cell? ⟨w.heap.size, 6, none⟩ = some (.slice la ls.length lc)) ∧ W.cell? ⟨b, o + j * 7, none⟩ = some (.int .i64 x0) ∧ W.cell? ⟨b, o + j * 7 + 1, none⟩ = some (.int .i64 x1) ∧ W.cell? ⟨b, o + j * 7 + 2, none⟩ = some (.int .i64 x2) ∧ W.cell? ⟨b, o + j * 7 + 3, none⟩ = some (.int .i64 x3) ∧ W.cell? ⟨b, o + j * 7 + 4, none⟩ = some (.int .i64 x4) ∧ W.cell? ⟨b, o + j * 7 + 5, none⟩ = some (.int .i64 (-1)) ∧ W.cell? ⟨b, o + j * 7 + 6, none⟩ = some (.slice xa xl.length xc))
      (with_reducible exact HS.out _ bd)
      (fail)
    obtain ⟨w3, hw3⟩ : ∃ W, w2.drew = W := ⟨_, rfl⟩
    rw [hw3] at bd ⊢
    have hS3 := HS.out _ bd
    obtain ⟨c0, ⟨p0, p1, p2, p3, p4, p5, p6⟩, q0, q1, q2, q3, q4, q5, q6⟩ := hS3
    have HMk := Lib.hid (HMj.out w3.drew (HB2.out.trans (bd.drew.mono HB2.out.size)))
    have be : Below w2.heap.size w2 w3.drew := bd.drew
    clear hw3 HMj HK HQ HSS
    go_wp2_with fail
    go_region_held3 (fun W => W.cell? ⟨q, 0, none⟩ = some (.slice (some ⟨b, o, none⟩) E.length cap) ∧ (W.cell? ⟨w.heap.size, 0, none⟩ = some (.int .i64 con) ∧ W.cell? ⟨w.heap.size, 1, none⟩ = some (.int .i64 day) ∧ W.cell? ⟨w.heap.size, 2, none⟩ = some (.int .i64 cur) ∧ W.cell? ⟨w.heap.size, 3, none⟩ = some (.int .i64 seq) ∧ W.cell? ⟨w.heap.size, 4, none⟩ = some (.int .i64 per) ∧ W.cell? ⟨w.heap.size, 5, none⟩ = some (.int .i64 (j : Int)) ∧ W.cell? ⟨w.heap.size, 6, none⟩ = some (.slice la ls.length lc)) ∧ W.cell? ⟨b, o + j * 7, none⟩ = some (.int .i64 x0) ∧ W.cell? ⟨b, o + j * 7 + 1, none⟩ = some (.int .i64 x1) ∧ W.cell? ⟨b, o + j * 7 + 2, none⟩ = some (.int .i64 x2) ∧ W.cell? ⟨b, o + j * 7 + 3, none⟩ = some (.int .i64 x3) ∧ W.cell? ⟨b, o + j * 7 + 4, none⟩ = some (.int .i64 x4) ∧ W.cell? ⟨b, o + j * 7 + 5, none⟩ = some (.int .i64 (-1)) ∧ W.cell? ⟨b, o + j * 7 + 6, none⟩ = some (.slice xa xl.length xc))
      (first | with_reducible exact HS.out _ be | with_reducible exact HS.out _ bf)
      ((go_at_call 72; (with_reducible refine HMk.out.mono ?_); rintro e wf ⟨rfl, hbf⟩; have bf := be.trans (hbf.mono be.size)))
    have hfin : Below w.heap.size w wf := HB2.out.trans (bf.mono HB2.out.size)
    rw [if_neg (by simp), if_neg (by simp)] at HRin
    cases hM : mirB ⟨⟨x0, x1, x2, x3, x4, -1⟩, xl⟩ ⟨⟨con, day, cur, seq, per, (j : Int)⟩, ls⟩ with
    | true =>
      have HF : Hid (R = 0) := by
        show _ = _
        rw [HRin.out]; exact if_pos hM
      clear hM HRin
      go_wp2_with fail
      go_ret
      exact ⟨by rw [HF.out]; rfl, hfin⟩
    | false =>
      have HF : Hid (R = 20) := by
        show _ = _
        rw [HRin.out]; exact if_neg (by rw [show mirB _ _ = false from hM]; decide)
      clear hM HRin
      go_wp2_with fail
      go_ret
      exact ⟨by rw [HF.out]; rfl, hfin⟩
theorem rwrong_ok (q : Nat) (a : Option Addr) (cap : Nat) (E : List En) (x : En) (w : World) (h : RqAt w q a cap E) (hl : E.length ≤ 1000000) (hw : WL (E.map En.p)) (hX : EnOk w x) :
    Calls Tryd.prog 65 #[.pointer (some ⟨q, 0, none⟩), entV x.s x.a x.ls.length x.cap] w (CkEnd w (wrongE (E.map En.p) x.p)) := by
  obtain ⟨⟨con, day, cur, seq, per, ref⟩, la, lc, ls⟩ := x
  exact rwr_main q a cap E con day cur seq per ref la lc ls w h hl hw hX

end Go.Proofs.YtpinhomalmknjaaDoor
/- The document's ledger: Post. -/
namespace Go.Proofs.YtpinhomalmknjaaDoor
open Go.RowKit Go.Sort Go.Shelf
set_option linter.unusedVariables false
set_option linter.unusedSimpArgs false
set_option maxRecDepth 100000

theorem infoREnt : (Tryd.prog.info? 90).map (fun i => (i.zero, i.size, i.bytes)) = some (some (.agg #[.int .i64 0, .int .i64 0, .int .i64 0, .int .i64 0, .int .i64 0, .int .i64 0, .slice none 0 0]), 7, 72) := by kernel_rfl
/-- A block that holds a slice. -/
def QBox (w : World) (q : Nat) : Prop := ∃ (a : Option Addr) (n c : Nat) (T : TypeId), Blk w q #[.slice a n c] T
theorem QBox.no_int {w : World} {q i : Nat} {n : Int} (h : QBox w q) : w.cell? ⟨q, i, none⟩ ≠ some (.int .i64 n) := fun e => by
  obtain ⟨a, k, c, T, hb⟩ := h
  have hb' : w.heap[q]? = some (.cells #[.slice a k c] T (0, 0)) := hb
  simp only [World.cell?, hb'] at e
  rcases i with _ | i <;> simp at e
theorem QBox.no_map {w : World} {q B : Nat} {ok : Value → Prop} {m : List (Value × Value)} (h : QBox w q) (hm : MapAt ok w B m) : B ≠ q := fun e => by
  subst e
  obtain ⟨es, cl, he, _⟩ := hm
  obtain ⟨a, k, c, T, hq⟩ := h
  have hq' : w.heap[B]? = some (.cells #[.slice a k c] T (0, 0)) := hq
  rw [hq'] at he; cases he
theorem LnAt.turn3 {w w' : World} {bs : List Nat} {a : Option Addr} {ls : List Ln} (h : LnAt w a ls) (t : Turn bs w w') (hb : ∀ q ∈ bs, QBox w q) : LnAt w' a ls := fun hl => by
  obtain ⟨b, o, e, hc⟩ := h hl
  have h0 := (hc 0 hl).1
  have hlt : b < w.heap.size := World.block_lt_of_cell? w _ h0
  have hn : b ∉ bs := fun hm => (hb b hm).no_int h0
  have hk := t.block b hlt hn
  exact ⟨b, o, e, fun i hi => ⟨(World.cell?_of_block hk).trans (hc i hi).1, (World.cell?_of_block hk).trans (hc i hi).2.1, (World.cell?_of_block hk).trans (hc i hi).2.2⟩⟩
theorem EnOk.turn3 {w w' : World} {bs : List Nat} {e : En} (h : EnOk w e) (t : Turn bs w w') (hb : ∀ q ∈ bs, QBox w q) : EnOk w' e := ⟨h.ln.turn3 t hb, h.wf, h.few, h.nil⟩
theorem SlAt.turn3 {w w' : World} {bs : List Nat} {a : Option Addr} {cap : Nat} {E : List En} (h : SlAt w 7 En.cs a cap E) (t : Turn bs w w') (hb : ∀ q ∈ bs, QBox w q) : SlAt w' 7 En.cs a cap E := by
  refine ⟨fun hl => ?_, h.le, h.max, h.sh.imp id fun ⟨b, o, e, hlt⟩ => ⟨b, o, e, by have := t.size; omega⟩⟩
  obtain ⟨b, o, e, hc⟩ := h.recs hl
  have h0 : w.cell? ⟨b, o + 0 * 7 + 0, none⟩ = some (.int .i64 (E.getD 0 default).s.con) := hc 0 hl 0 _ rfl
  have hlt : b < w.heap.size := World.block_lt_of_cell? w _ h0
  have hn : b ∉ bs := fun hm => (hb b hm).no_int h0
  exact ⟨b, o, e, fun i hi j v hv => (World.cell?_of_block (a := ⟨b, o + i * 7 + j, none⟩) (t.block b hlt hn)).trans (hc i hi j v hv)⟩

/-- The document's ledger, that has no row where it has no entries. -/
structure RqOk (w : World) (q : Nat) (a : Option Addr) (cap : Nat) (E : List En) : Prop where
  at' : RqAt w q a cap E
  nil : E = [] → a = none ∧ cap = 0
theorem RqOk.after {w w' : World} {q : Nat} {a : Option Addr} {cap : Nat} {E : List En} (h : RqOk w q a cap E) (hb : Below w.heap.size w w') : RqOk w' q a cap E := ⟨h.at'.after hb, h.nil⟩
theorem RqOk.box {w : World} {q : Nat} {a : Option Addr} {cap : Nat} {E : List En} (h : RqOk w q a cap E) : QBox w q := ⟨_, _, _, _, h.at'.blk⟩
def RPostEnd (w : World) (q : Nat) (E : List En) (there lk : Bool) (per seq : Int) (X : List En) (e : Ending) (w' : World) : Prop :=
  ∃ a' cap' E', e = .returned (.int .i64 (postE there lk per seq (E.map En.p) (X.map En.p))) ∧ RqOk w' q a' cap' E' ∧ E'.map En.p = postL there lk per seq (E.map En.p) (X.map En.p) ∧ Turn [q] w w'
theorem RPostEnd.bad {w w' : World} {q : Nat} {a : Option Addr} {cap : Nat} {E : List En} {there lk : Bool} {per seq : Int} {X : List En} {n : Int} (h : RqOk w q a cap E) (hb : Below w.heap.size w w') (hn : postE there lk per seq (E.map En.p) (X.map En.p) = n) (h0 : n ≠ 0) : RPostEnd w q E there lk per seq X (.returned (.int .i64 n)) w' := by
  refine ⟨a, cap, E, ?_, h.after hb, ?_, Turn.of_below hb |> fun h => (⟨h.os, h.tape, h.output, h.size, h.block⟩ : Turn _ _ _)⟩
  · rw [hn]
  · unfold postL; rw [hn, if_neg h0]

/-- Entries put so far. -/
structure RRel (w : World) (nx : Nat) (per seq : Int) (L xs : List EnP) (j : Nat) (wr : World) : Prop where
  ex : ∃ a' cap' E', RqOk wr nx a' cap' E' ∧ wr.ownsRow w.heap.size 90 7 (.slice a' E'.length cap') E'.length (cellsL En.cs E') ∧ E'.map En.p = L ++ (xs.take j).map (stamp per seq) ∧ ∀ e ∈ E', EnOk w e
  be : Below w.heap.size w wr
  ok : ∀ i, i < j → ∀ x, xs[i]? = some x → wrongE (L ++ (xs.take i).map (stamp per seq)) x = 0
/-- An entry, ready to be put: its box in B. -/
structure RMid (w : World) (nx : Nat) (a : Option Addr) (cap : Nat) (E : List En) (B : Nat) (y : En) (wz : World) : Prop where
  kp : Blk wz nx #[.slice a E.length cap] 40
  own : wz.ownsRow w.heap.size 90 7 (.slice a E.length cap) E.length (cellsL En.cs E)
  kb : Blk wz B y.cs.toArray 90
  ok : ∀ e ∈ E, EnOk w e
  oy : EnOk w y
  be : Below w.heap.size w wz
  hp : w.heap.size ≤ nx
theorem RMid.after {w : World} {nx : Nat} {a : Option Addr} {cap : Nat} {E : List En} {B : Nat} {y : En} {wz wq : World} (h : RMid w nx a cap E B y wz) (hb : Below wz.heap.size wz wq) : RMid w nx a cap E B y wq :=
  ⟨h.kp.after hb, own_after h.own hb, h.kb.after hb, h.ok, h.oy, h.be.trans (hb.mono h.be.size), h.hp⟩
theorem RMid.put {w : World} {nx : Nat} {a : Option Addr} {cap : Nat} {E : List En} {B : Nat} {y : En} {wq wG : World} {g c3 : Nat} {per seq : Int} {L xs : List EnP} {j : Nat} {x : EnP} (h : RMid w nx a cap E B y wq)
    (hown : wG.ownsRow w.heap.size 90 7 (.slice (some ⟨g, 0, none⟩) (E.length + 1) c3) (E.length + 1) (cellsL En.cs E ++ y.cs)) (hgrow : wq.grownBy wG (Value.slice a E.length cap).ownBlock)
    (hE : E.map En.p = L ++ (xs.take j).map (stamp per seq)) (hx : xs[j]? = some x) (hy : y.p = stamp per seq x) (hw : wrongE (L ++ (xs.take j).map (stamp per seq)) x = 0) (hk : ∀ i, i < j → ∀ x, xs[i]? = some x → wrongE (L ++ (xs.take i).map (stamp per seq)) x = 0) :
    RRel w nx per seq L xs (j + 1) (wG.setCell ⟨nx, 0, none⟩ (.slice (some ⟨g, 0, none⟩) (E.length + 1) c3)) := by
  have kp : Blk wG nx #[.slice a E.length cap] 40 := h.kp.grown hgrow (h.kp.own_ne h.own (by decide))
  obtain ⟨hj, hxe⟩ := List.getElem?_eq_some_iff.1 hx
  have hlen : (E ++ [y]).length = E.length + 1 := by simp
  have hokq : ∀ e ∈ E ++ [y], EnOk w e := fun e he => by
    rcases List.mem_append.1 he with h1 | h1
    · exact h.ok e h1
    · rw [List.mem_singleton.1 h1]; exact h.oy
  have hbG : Below w.heap.size w wG := h.be.grown hgrow h.be.size (fun q e => (own_cells h.own e).1)
  have hbS : Below w.heap.size w (wG.setCell ⟨nx, 0, none⟩ (.slice (some ⟨g, 0, none⟩) (E.length + 1) c3)) := hbG.setCell (p := ⟨nx, 0, none⟩) h.hp _
  have hown2 : (wG.setCell ⟨nx, 0, none⟩ (.slice (some ⟨g, 0, none⟩) (E.length + 1) c3)).ownsRow w.heap.size 90 7 (.slice (some ⟨g, 0, none⟩) (E ++ [y]).length c3) (E ++ [y]).length (cellsL En.cs (E ++ [y])) := by
    rw [hlen, cellsL_snoc]
    exact hown.kept (grown_setCell wG nx 0 _) (Or.inr (kp.own_ne hown (by decide)))
  obtain ⟨a9, c9, e9, hsl, _⟩ := sl_own (enc := En.cs) En.cs_len hown2
  simp only [Value.slice.injEq, true_and] at e9
  obtain ⟨rfl, rfl⟩ := e9
  refine ⟨⟨some ⟨g, 0, none⟩, c3, E ++ [y], ⟨⟨?_, hsl, fun e he => (hokq e he).after hbS⟩, fun e => by simp at e⟩, hown2, ?_, hokq⟩, hbS, fun i hi z hz => ?_⟩
  · rw [hlen]; exact kp.set 0 _
  · rw [List.map_append, hE, List.take_succ_eq_append_getElem hj, List.map_append, List.append_assoc, hxe]
    simp [hy]
  · rcases Nat.lt_or_ge i j with h1 | h1
    · exact hk i h1 z hz
    · obtain rfl : i = j := by omega
      rw [hx] at hz
      cases hz
      exact hw

set_option maxHeartbeats 4000000 in
theorem rpost_none (q : Nat) (a : Option Addr) (cap : Nat) (E : List En) (lk : Bool) (per seq : Int) (ea : Option Addr) (ecap : Nat) (X : List En) (w : World) (h : RqOk w q a cap E) :
    Calls Tryd.prog 38 #[.pointer (some ⟨q, 0, none⟩), .bool false, .bool lk, .int .i64 per, .int .i64 seq, .slice ea X.length ecap] w (RPostEnd w q E false lk per seq X) := by
  have HF : Hid (RPostEnd w q E false lk per seq X (.returned (.int .i64 10)) w) := RPostEnd.bad h (Below.refl _ _) rfl (by decide)
  clear h
  go_enter Tryd.func38, Tryd.ntmps38
  go_wp2_with fail
  go_ret
  exact HF.out
set_option maxHeartbeats 4000000 in
theorem rpost_lock (q : Nat) (a : Option Addr) (cap : Nat) (E : List En) (per seq : Int) (ea : Option Addr) (ecap : Nat) (X : List En) (w : World) (h : RqOk w q a cap E) :
    Calls Tryd.prog 38 #[.pointer (some ⟨q, 0, none⟩), .bool true, .bool true, .int .i64 per, .int .i64 seq, .slice ea X.length ecap] w (RPostEnd w q E true true per seq X) := by
  have HF : Hid (RPostEnd w q E true true per seq X (.returned (.int .i64 19)) w) := RPostEnd.bad h (Below.refl _ _) rfl (by decide)
  clear h
  go_enter Tryd.func38, Tryd.ntmps38
  go_wp2_with fail
  go_ret
  exact HF.out
set_option maxHeartbeats 4000000 in
theorem rpost_seq (q : Nat) (a : Option Addr) (cap : Nat) (E : List En) (per seq : Int) (ea : Option Addr) (ecap : Nat) (X : List En) (w : World) (h : RqOk w q a cap E) (hl : E.length ≤ 900000) (h6 : seq < 0 ∨ seq < seqOf (E.map En.p)) :
    Calls Tryd.prog 38 #[.pointer (some ⟨q, 0, none⟩), .bool true, .bool false, .int .i64 per, .int .i64 seq, .slice ea X.length ecap] w (RPostEnd w q E true false per seq X) := by
  have HSq := Lib.hid (rseq_ok q a cap E w h.at' (by omega))
  have HF : Hid (∀ w', Below w.heap.size w w' → RPostEnd w q E true false per seq X (.returned (.int .i64 24)) w') := fun w' hb => RPostEnd.bad h hb (by unfold postE; rw [if_neg (by decide), if_neg (by decide), if_pos h6]) (by decide)
  obtain ⟨k, hk⟩ : ∃ k, seqOf (E.map En.p) = k := ⟨_, rfl⟩
  rw [hk] at HSq h6
  clear h hk
  by_cases h7 : seq < 0
  · have d1 : decide (seq < 0) = true := decide_eq_true h7
    clear h6 h7
    go_enter Tryd.func38, Tryd.ntmps38
    go_wp2_with fail
    go_ret
    exact HF.out _ (Below.refl _ _)
  · have d1 : decide (seq < 0) = false := decide_eq_false h7
    have d2 : decide (seq < k) = true := decide_eq_true (by omega)
    clear h6 h7
    go_enter Tryd.func38, Tryd.ntmps38
    go_wp2_with fail
    with_reducible refine HSq.out.mono ?_
    rintro e w1 ⟨rfl, hb1⟩
    go_wp2_with fail
    go_ret
    exact HF.out _ hb1

set_option maxHeartbeats 16000000 in
theorem rpost_main (q : Nat) (a : Option Addr) (cap : Nat) (E : List En) (per seq : Int) (ea : Option Addr) (ecap : Nat) (X : List En) (w : World) (h : RqOk w q a cap E) (hw : WL (E.map En.p)) (hl : E.length ≤ 900000) (h3 : 0 ≤ per) (h6 : 0 ≤ seq) (h7 : seqOf (E.map En.p) ≤ seq) (hx : EnsAt w ea X) (hxl : X.length ≤ 1000) :
    Calls Tryd.prog 38 #[.pointer (some ⟨q, 0, none⟩), .bool true, .bool false, .int .i64 per, .int .i64 seq, .slice ea X.length ecap] w (RPostEnd w q E true false per seq X) := by
  obtain ⟨v0, hv, hv0, hv1, hv2⟩ := info_parts infoREnt
  have HSq := Lib.hid (rseq_ok q a cap E w h.at' (by omega))
  have HL := Lib.hid h
  have HW := Lib.hid hw
  have HX := Lib.hid hx
  have HP0 := Lib.hid h3
  have HS0 := Lib.hid h6
  have HS7 := Lib.hid h7
  have HPE : Hid (postE true false per seq (E.map En.p) (X.map En.p) = (postK per seq (E.map En.p) (X.map En.p)).1) := by
    show _ = _
    unfold postE
    rw [if_neg (by decide), if_neg (by decide), if_neg (by omega)]
  have d1 : decide (seq < 0) = false := decide_eq_false (by omega)
  obtain ⟨k, hk⟩ : ∃ k, seqOf (E.map En.p) = k := ⟨_, rfl⟩
  rw [hk] at HSq h7
  have d2 : decide (seq < k) = false := decide_eq_false (by omega)
  clear h h3 h6 h7 hw hx hk
  go_enter Tryd.func38, Tryd.ntmps38
  go_wp2_with fail
  with_reducible refine HSq.out.mono ?_
  rintro e w1 ⟨rfl, hb1⟩
  obtain ⟨w2, hw2⟩ : ∃ W, w1.alloc (.cells #[.slice none 0 0] 40) = W := ⟨_, rfl⟩
  have hb2 : Below w1.heap.size w1 w2 := by rw [← hw2]; exact (Below.refl _ _).alloc (Nat.le_refl _) _
  have K2 : Blk w2 w1.heap.size #[.slice none 0 0] 40 := by rw [← hw2]; exact Blk.new _ _ _
  have HW2 := Lib.hid hw2
  have HB2 := Lib.hid (hb1.trans (hb2.mono hb1.size))
  have HK2 := Lib.hid K2
  obtain ⟨nx, hnx⟩ : ∃ n, w1.heap.size = n := ⟨_, rfl⟩
  have hp1w : w.heap.size ≤ nx := by have := hb1.size; omega
  clear hw2 hb2 K2 HSq
  go_wp2_with fail
  rw [HW2.out]
  rw [hnx] at HK2
  clear HW2 hnx hb1
  have HC : Hid (∀ W, Below w2.heap.size w2 W → W.cell? ⟨nx, 0, none⟩ = some (.slice none 0 0) ∧ W.cell? ⟨q, 0, none⟩ = some (.slice a E.length cap)) := fun W hW => ⟨(HK2.out.after hW).cell 0 rfl, (HL.out.after (HB2.out.trans (hW.mono HB2.out.size))).at'.blk.cell 0 rfl⟩
  refine wp_region_final (fun W => W.cell? ⟨nx, 0, none⟩ = some (.slice none 0 0) ∧ W.cell? ⟨q, 0, none⟩ = some (.slice a E.length cap)) 12 (by kernel_rfl) ?_
  have bd : Below w2.heap.size w2 w2.drew := (Below.refl _ _).drew
  have hSd := HC.out _ bd
  obtain ⟨wq, hwq⟩ : ∃ W, w2.drew = W := ⟨_, rfl⟩
  rw [hwq] at bd hSd ⊢
  clear hwq
  refine fT_take (i := 0) (v := ?_) rfl (by kernel_rfl) (fun _ _ _ h => h) (by rfl) hSd ?_ ?_
  rotate_left 1
  · intro wS hSw
    obtain ⟨s0, s1⟩ := hSw
    go_simp
    try with_reducible rfl
  try simp only [Act.put, List.setIfInBounds_toArray, List.set_cons_zero, List.set_cons_succ]
  refine fT_take (i := 1) (v := ?_) rfl (by kernel_rfl) (fun _ _ _ h => h) (by rfl) hSd ?_ ?_
  rotate_left 1
  · intro wS hSw
    obtain ⟨s0, s1⟩ := hSw
    go_simp
    try with_reducible rfl
  try simp only [Act.put, List.setIfInBounds_toArray, List.set_cons_zero, List.set_cons_succ]
  refine fT_take (i := 2) (v := ?_) rfl (by kernel_rfl) (fun _ _ _ h => h) (by rfl) hSd ?_ ?_
  rotate_left 1
  · intro wS hSw
    obtain ⟨s0, s1⟩ := hSw
    go_simp
    try with_reducible rfl
  try simp only [Act.put, List.setIfInBounds_toArray, List.set_cons_zero, List.set_cons_succ]
  refine fT_take (i := 3) (v := ?_) rfl (by kernel_rfl) (fun _ _ _ h => h) (by rfl) hSd ?_ ?_
  rotate_left 1
  · intro wS hSw
    obtain ⟨s0, s1⟩ := hSw
    go_simp
    try with_reducible rfl
  try simp only [Act.put, List.setIfInBounds_toArray, List.set_cons_zero, List.set_cons_succ]
  refine fT_take (i := 4) (v := ?_) rfl (by kernel_rfl) (fun _ _ _ h => h) (by rfl) hSd ?_ ?_
  rotate_left 1
  · intro wS hSw
    obtain ⟨s0, s1⟩ := hSw
    go_simp
    try with_reducible rfl
  try simp only [Act.put, List.setIfInBounds_toArray, List.set_cons_zero, List.set_cons_succ]
  refine fT_take (i := 5) (v := ?_) rfl (by kernel_rfl) (fun _ _ _ h => h) (by rfl) hSd ?_ ?_
  rotate_left 1
  · intro wS hSw
    obtain ⟨s0, s1⟩ := hSw
    go_simp
    try with_reducible rfl
  try simp only [Act.put, List.setIfInBounds_toArray, List.set_cons_zero, List.set_cons_succ]
  refine fT_take (i := 6) (v := ?_) rfl (by kernel_rfl) (fun _ _ _ h => h) (by rfl) hSd ?_ ?_
  rotate_left 1
  · intro wS hSw
    obtain ⟨s0, s1⟩ := hSw
    go_simp
    try with_reducible rfl
  try simp only [Act.put, List.setIfInBounds_toArray, List.set_cons_zero, List.set_cons_succ]
  refine fT_take (i := 7) (v := ?_) rfl (by kernel_rfl) (fun _ _ _ h => h) (by rfl) hSd ?_ ?_
  rotate_left 1
  · intro wS hSw
    obtain ⟨s0, s1⟩ := hSw
    go_simp
    try with_reducible rfl
  try simp only [Act.put, List.setIfInBounds_toArray, List.set_cons_zero, List.set_cons_succ]
  refine fT_take (i := 8) (v := ?_) rfl (by kernel_rfl) (fun _ _ _ h => h) (by rfl) hSd ?_ ?_
  rotate_left 1
  · intro wS hSw
    obtain ⟨s0, s1⟩ := hSw
    go_simp
    try with_reducible rfl
  try simp only [Act.put, List.setIfInBounds_toArray, List.set_cons_zero, List.set_cons_succ]
  refine wpAnyF_next (i := 9) rfl (by kernel_rfl) (fun K hK => ?_)
  have hLq := HL.out.after (HB2.out.trans (bd.mono HB2.out.size))
  refine step_append_new (enc := En.cs) (size := 7) (by rfl) _ _ _ (by rfl) w.heap.size 90 v0 _ 72 Tryd.underlying38 hv hv0 hv1 hv2 rfl (by omega) En.cs_len En.cs_one (by rfl) a cap E.length E rfl (by rfl) hLq.at'.sl.recs (fun e => hLq.nil (List.length_eq_zero_iff.1 e)) (by unfold maxLen; omega) (by omega) (by have := HB2.out.size; have := bd.size; omega) ?_
  intro a1 c1 wG hown hbG hnil
  have bG : Below w2.heap.size w2 wG := bd.trans (hbG.mono bd.size)
  have hSG := HC.out _ bG
  have kG := HK2.out.after bG
  have mf := kG.free 0
  have HR4 : Hid (RRel w nx per seq (E.map En.p) (X.map En.p) 0 (wG.setCell ⟨nx, 0, none⟩ (.slice a1 E.length c1))) := by
    have hS : Below w.heap.size w (wG.setCell ⟨nx, 0, none⟩ (.slice a1 E.length c1)) := (HB2.out.trans (bG.mono HB2.out.size)).setCell (p := ⟨nx, 0, none⟩) hp1w _
    have hown2 := hown.kept (grown_setCell wG nx 0 (.slice a1 E.length c1)) (Or.inr (by have := kG.own_ne hown (by decide); simpa using this))
    obtain ⟨a9, c9, e9, hsl, _⟩ := sl_own (enc := En.cs) En.cs_len hown2
    simp only [Value.slice.injEq, true_and] at e9
    obtain ⟨rfl, rfl⟩ := e9
    exact ⟨⟨a1, c1, E, ⟨⟨kG.set 0 _, hsl, fun e he => (HL.out.at'.ok e he).after hS⟩, fun e => hnil (by rw [e]; rfl)⟩, hown2, by simp, HL.out.at'.ok⟩, hS, fun i hi => absurd hi (by omega)⟩
  refine hK.out _ _ (.inr hSG) ?_
  clear hK K hown hnil hLq kG bG hbG
  try simp only [Act.put, List.setIfInBounds_toArray, List.set_cons_zero, List.set_cons_succ]
  refine wpAnyF_next (i := 10) rfl (by kernel_rfl) (fun K hK => ?_)
  go_simp
  refine hK.out _ _ (.inr hSG) ?_
  clear hK K
  try simp only [Act.put, List.setIfInBounds_toArray, List.set_cons_zero, List.set_cons_succ]
  refine wpAnyF_next (i := 11) rfl (by kernel_rfl) (fun K hK => ?_)
  go_simp
  refine hK.out _ _ (.inr hSG) ?_
  clear hK K
  try simp only [Act.put, List.setIfInBounds_toArray, List.set_cons_zero, List.set_cons_succ]
  refine wpAnyF_next (i := 12) rfl (by kernel_rfl) (fun K hK => ?_)
  go_simp
  refine hK.out _ _ (.inl rfl) ?_
  clear hK K
  try simp only [Act.put, List.setIfInBounds_toArray, List.set_cons_zero, List.set_cons_succ]
  refine wpAnyF_done (by kernel_rfl) ?_ _
  obtain ⟨w4, hw4⟩ : ∃ W, wG.setCell ⟨nx, 0, none⟩ (.slice a1 E.length c1) = W := ⟨_, rfl⟩
  rw [hw4] at HR4 ⊢
  clear hSG hSd HC bd mf HB2 HK2 hw4
  go_wp2_with fail
  go_loopw [14] (fun i wr => ∃ j : Nat, j ≤ X.length ∧ i = .int .i64 (j : Int) ∧ Hid (RRel w nx per seq (E.map En.p) (X.map En.p) j wr)) (fun i _ => X.length - (intOf i).toNat)
  case atStart => exact ⟨0, by omega, rfl, HR4⟩
  case round =>
    obtain ⟨j, hj, rfl, HQ⟩ := hrel
    by_cases hlt : j < X.length
    · have HLt := Lib.hid hlt
      obtain ⟨x, hy⟩ : ∃ x, X[j]'hlt = x := ⟨_, rfl⟩
      have hx : X[j]? = some x := by rw [← hy]; exact List.getElem?_eq_getElem hlt
      have HXj : Hid ((X.map En.p)[j]? = some x.p) := by show _ = _; rw [List.getElem?_map, hx]; rfl
      have hxw : EnOk w x := by
        have := HX.out.2 j hlt
        rwa [show En.at X j = x by unfold En.at; rw [List.getD_eq_getElem?_getD, hx]; rfl] at this
      obtain ⟨a1, c1, E1, hL1, ho1, hE1, hok1⟩ := HQ.out.ex
      have HE1 := Lib.hid hE1
      have HOk := Lib.hid HQ.out.ok
      have hE1l : E1.length ≤ 901000 := by
        have := congrArg List.length hE1
        simp only [List.length_map, List.length_append, List.length_take] at this
        omega
      have hWL1 : WL (E1.map En.p) := by
        rw [hE1]
        exact HW.out.puts HP0.out HS0.out HS7.out ((X.map En.p).take j) (fun i z hz => by
          have hi : i < j := by have := (List.getElem?_eq_some_iff.1 hz).1; rw [List.length_take] at this; omega
          rw [List.getElem?_take_of_lt hi] at hz
          rw [List.take_take, Nat.min_eq_left (by omega)]
          exact HOk.out i hi z hz)
      obtain ⟨b0, o0, rfl, _⟩ := HX.out.1 (by omega)
      have hck := rwrong_ok nx a1 c1 E1 x wr hL1.at' (by omega) hWL1 (hxw.after HQ.out.be)
      obtain ⟨⟨con, day, cur, sq, pr, ref⟩, la, lc, ls⟩ := x
      have HCl : Hid (∀ W, Below w.heap.size w W → W.cell? ⟨b0, o0 + j * 7, none⟩ = some (.int .i64 con) ∧ W.cell? ⟨b0, o0 + j * 7 + 1, none⟩ = some (.int .i64 day) ∧ W.cell? ⟨b0, o0 + j * 7 + 2, none⟩ = some (.int .i64 cur) ∧ W.cell? ⟨b0, o0 + j * 7 + 3, none⟩ = some (.int .i64 sq) ∧ W.cell? ⟨b0, o0 + j * 7 + 4, none⟩ = some (.int .i64 pr) ∧ W.cell? ⟨b0, o0 + j * 7 + 5, none⟩ = some (.int .i64 ref) ∧ W.cell? ⟨b0, o0 + j * 7 + 6, none⟩ = some (.slice la ls.length lc)) := fun W hW => by
        have hXr : RecsAt W (some ⟨b0, o0, none⟩) 7 En.cs X := (HX.out.after hW).1
        exact ⟨RecsAt.cell hXr rfl hlt hx (j := 0) rfl, RecsAt.cell hXr rfl hlt hx (j := 1) rfl, RecsAt.cell hXr rfl hlt hx (j := 2) rfl, RecsAt.cell hXr rfl hlt hx (j := 3) rfl, RecsAt.cell hXr rfl hlt hx (j := 4) rfl, RecsAt.cell hXr rfl hlt hx (j := 5) rfl, RecsAt.cell hXr rfl hlt hx (j := 6) rfl⟩
      obtain ⟨q0, q1, q2, q3, q4, q5, q6⟩ := HCl.out wr HQ.out.be
      rw [hE1] at hck
      dsimp only [entV, En.p] at hck
      have HCk := Lib.hid hck
      have HXw := Lib.hid hxw
      have HLr := Lib.hid hL1
      have HOr := Lib.hid ho1
      have HO1 := Lib.hid hok1
      have HBr := Lib.hid HQ.out.be
      have i1 : (0 : Int) ≤ (j : Int) := by omega
      have i2 : (j : Int) < (X.length : Int) := by omega
      clear hy hx hxw hL1 ho1 hE1 hok1 hWL1 hck hlt HQ
      go_wp2_with fail
      with_reducible refine HCk.out.mono ?_
      rintro e w6 ⟨rfl, hb6⟩
      have hB6 := HBr.out.trans (hb6.mono HBr.out.size)
      by_cases hwr : wrongE (E.map En.p ++ ((X.map En.p).take j).map (stamp per seq)) ⟨⟨con, day, cur, sq, pr, ref⟩, ls⟩ = 0
      · rw [hwr]
        have HWr := Lib.hid hwr
        obtain ⟨q0, q1, q2, q3, q4, q5, q6⟩ := HCl.out w6 hB6
        obtain ⟨w8, hw8⟩ : ∃ W, w6.alloc (.cells #[.int .i64 con, .int .i64 day, .int .i64 cur, .int .i64 seq, .int .i64 per, .int .i64 ref, .slice la ls.length lc] 90) = W := ⟨_, rfl⟩
        have hb8 : Below w6.heap.size w6 w8 := by rw [← hw8]; exact (Below.refl _ _).alloc (Nat.le_refl _) _
        have K8 : Blk w8 w6.heap.size #[.int .i64 con, .int .i64 day, .int .i64 cur, .int .i64 seq, .int .i64 per, .int .i64 ref, .slice la ls.length lc] 90 := by rw [← hw8]; exact Blk.new _ _ _
        have hb8' := hb6.trans (hb8.mono hb6.size)
        have HW8 := Lib.hid hw8
        have HMB : Hid (RMid w nx a1 c1 E1 w6.heap.size ⟨⟨con, day, cur, seq, per, ref⟩, la, lc, ls⟩ w8) := ⟨HLr.out.at'.blk.after hb8', own_after HOr.out hb8', K8, HO1.out, ⟨HXw.out.ln, HXw.out.wf, HXw.out.few, HXw.out.nil⟩, hB6.trans (hb8.mono hB6.size), hp1w⟩
        have HNB : Hid ((Value.slice a1 E1.length c1).ownBlock ≠ some w6.heap.size) := fun e => by have := (own_cells HOr.out e).2.1; have := hb6.size; omega
        clear hwr hb6 hB6 HCk HCl hw8 hb8 K8 hb8' HLr HOr HO1 HXw
        go_wp2_with fail
        rw [HW8.out]
        clear HW8 q0 q1 q2 q3 q4 q5 q6
        obtain ⟨B, hB⟩ : ∃ n, w6.heap.size = n := ⟨_, rfl⟩
        rw [hB] at HMB HNB ⊢
        clear hB
        have HM := HMB
        have HNw := HNB
        clear HMB HNB
        have zq0 := HM.out.be.size
        have hkp := fun W (hW : Below w8.heap.size w8 W) => (HM.out.after hW).kp.cell 0 rfl
        have hkb := fun W (hW : Below w8.heap.size w8 W) => (HM.out.after hW).kb
        have HC : Hid (∀ W, Below w8.heap.size w8 W → W.cell? ⟨nx, 0, none⟩ = some (.slice a1 E1.length c1) ∧ W.cell? ⟨B, 0, none⟩ = some (.int .i64 con) ∧ W.cell? ⟨B, 1, none⟩ = some (.int .i64 day) ∧ W.cell? ⟨B, 2, none⟩ = some (.int .i64 cur) ∧ W.cell? ⟨B, 3, none⟩ = some (.int .i64 seq) ∧ W.cell? ⟨B, 4, none⟩ = some (.int .i64 per) ∧ W.cell? ⟨B, 5, none⟩ = some (.int .i64 ref) ∧ W.cell? ⟨B, 6, none⟩ = some (.slice la ls.length lc)) := fun W hW => ⟨hkp W hW, (hkb W hW).cell 0 rfl, (hkb W hW).cell 1 rfl, (hkb W hW).cell 2 rfl, (hkb W hW).cell 3 rfl, (hkb W hW).cell 4 rfl, (hkb W hW).cell 5 rfl, (hkb W hW).cell 6 rfl⟩
        clear hkp hkb
        refine wp_region_final (fun W => W.cell? ⟨nx, 0, none⟩ = some (.slice a1 E1.length c1) ∧ W.cell? ⟨B, 0, none⟩ = some (.int .i64 con) ∧ W.cell? ⟨B, 1, none⟩ = some (.int .i64 day) ∧ W.cell? ⟨B, 2, none⟩ = some (.int .i64 cur) ∧ W.cell? ⟨B, 3, none⟩ = some (.int .i64 seq) ∧ W.cell? ⟨B, 4, none⟩ = some (.int .i64 per) ∧ W.cell? ⟨B, 5, none⟩ = some (.int .i64 ref) ∧ W.cell? ⟨B, 6, none⟩ = some (.slice la ls.length lc)) 10 (by kernel_rfl) ?_
        have bd : Below w8.heap.size w8 w8.drew := (Below.refl _ _).drew
        have hSd := HC.out _ bd
        obtain ⟨wq, hwq⟩ : ∃ W, w8.drew = W := ⟨_, rfl⟩
        rw [hwq] at bd hSd ⊢
        clear hwq
        refine fT_take (i := 0) (v := ?_) rfl (by kernel_rfl) (fun _ _ _ h => h) (by rfl) hSd ?_ ?_
        rotate_left 1
        · intro wS hSw
          obtain ⟨s0, s1, s2, s3, s4, s5, s6, s7⟩ := hSw
          go_simp
          try with_reducible rfl
        try simp only [Act.put, List.setIfInBounds_toArray, List.set_cons_zero, List.set_cons_succ]
        refine fT_take (i := 1) (v := ?_) rfl (by kernel_rfl) (fun _ _ _ h => h) (by rfl) hSd ?_ ?_
        rotate_left 1
        · intro wS hSw
          obtain ⟨s0, s1, s2, s3, s4, s5, s6, s7⟩ := hSw
          go_simp
          try with_reducible rfl
        try simp only [Act.put, List.setIfInBounds_toArray, List.set_cons_zero, List.set_cons_succ]
        refine fT_take (i := 2) (v := ?_) rfl (by kernel_rfl) (fun _ _ _ h => h) (by rfl) hSd ?_ ?_
        rotate_left 1
        · intro wS hSw
          obtain ⟨s0, s1, s2, s3, s4, s5, s6, s7⟩ := hSw
          go_simp
          try with_reducible rfl
        try simp only [Act.put, List.setIfInBounds_toArray, List.set_cons_zero, List.set_cons_succ]
        refine fT_take (i := 3) (v := ?_) rfl (by kernel_rfl) (fun _ _ _ h => h) (by rfl) hSd ?_ ?_
        rotate_left 1
        · intro wS hSw
          obtain ⟨s0, s1, s2, s3, s4, s5, s6, s7⟩ := hSw
          go_simp
          try with_reducible rfl
        try simp only [Act.put, List.setIfInBounds_toArray, List.set_cons_zero, List.set_cons_succ]
        refine fT_take (i := 4) (v := ?_) rfl (by kernel_rfl) (fun _ _ _ h => h) (by rfl) hSd ?_ ?_
        rotate_left 1
        · intro wS hSw
          obtain ⟨s0, s1, s2, s3, s4, s5, s6, s7⟩ := hSw
          go_simp
          try with_reducible rfl
        try simp only [Act.put, List.setIfInBounds_toArray, List.set_cons_zero, List.set_cons_succ]
        refine fT_take (i := 5) (v := ?_) rfl (by kernel_rfl) (fun _ _ _ h => h) (by rfl) hSd ?_ ?_
        rotate_left 1
        · intro wS hSw
          obtain ⟨s0, s1, s2, s3, s4, s5, s6, s7⟩ := hSw
          go_simp
          try with_reducible rfl
        try simp only [Act.put, List.setIfInBounds_toArray, List.set_cons_zero, List.set_cons_succ]
        have bA : Below w8.heap.size w8 (wq.alloc (.cells #[.int .i64 con, .int .i64 day, .int .i64 cur, .int .i64 seq, .int .i64 per, .int .i64 ref, .slice la ls.length lc] 90)) := bd.trans ((Below.refl _ _).alloc bd.size _)
        refine wpAnyF_next (i := 6) rfl (by kernel_rfl) (fun K hK => ?_)
        go_simp
        refine hK.out _ _ (.inr (HC.out _ bA)) ?_
        clear hK K
        try simp only [Act.put, List.setIfInBounds_toArray, List.set_cons_zero, List.set_cons_succ]
        refine wpAnyF_next (i := 7) rfl (by kernel_rfl) (fun K hK => ?_)
        have hMA := HM.out.after bA
        refine step_append_lies _ (by rfl) _ _ _ (by rfl) w.heap.size 90 v0 _ 7 72 Tryd.underlying38 hv hv0 hv1 hv2 rfl (by omega) _ E1.length _ (by rfl) hMA.own ⟨wq.heap.size, 0, none⟩ 1 1 [.int .i64 con, .int .i64 day, .int .i64 cur, .int .i64 seq, .int .i64 per, .int .i64 ref, .slice la ls.length lc] (by rfl) (by rfl) (World.news_of_block (cs := #[.int .i64 con, .int .i64 day, .int .i64 cur, .int .i64 seq, .int .i64 per, .int .i64 ref, .slice la ls.length lc]) (t := 90) (fr := (0, 0)) (heap_alloc_new wq _)) (by simp [Value.oneCell']) (by omega) (by unfold maxLen; omega) (by omega) (by have := bA.size; omega) _ rfl ?_
        intro g c3 wG hown hgrow hat hgt
        have kG : Blk wG nx #[.slice a1 E1.length c1] 40 := hMA.kp.grown hgrow (hMA.kp.own_ne hMA.own (by decide))
        have hbne : (Value.slice a1 E1.length c1).ownBlock ≠ some B := fun e => HNw.out e
        have kX : Blk wG B #[.int .i64 con, .int .i64 day, .int .i64 cur, .int .i64 seq, .int .i64 per, .int .i64 ref, .slice la ls.length lc] 90 := hMA.kb.grown hgrow hbne
        have m0 : wG.cell? ⟨nx, 0, none⟩ = some (.slice a1 E1.length c1) := kG.cell 0 rfl
        have mf := kG.free 0
        have hSG : (fun W => W.cell? ⟨nx, 0, none⟩ = some (.slice a1 E1.length c1) ∧ W.cell? ⟨B, 0, none⟩ = some (.int .i64 con) ∧ W.cell? ⟨B, 1, none⟩ = some (.int .i64 day) ∧ W.cell? ⟨B, 2, none⟩ = some (.int .i64 cur) ∧ W.cell? ⟨B, 3, none⟩ = some (.int .i64 seq) ∧ W.cell? ⟨B, 4, none⟩ = some (.int .i64 per) ∧ W.cell? ⟨B, 5, none⟩ = some (.int .i64 ref) ∧ W.cell? ⟨B, 6, none⟩ = some (.slice la ls.length lc)) wG := ⟨m0, kX.cell 0 rfl, kX.cell 1 rfl, kX.cell 2 rfl, kX.cell 3 rfl, kX.cell 4 rfl, kX.cell 5 rfl, kX.cell 6 rfl⟩
        dsimp only at hSG
        have HFin : Hid (RRel w nx per seq (E.map En.p) (X.map En.p) (j + 1) (wG.setCell ⟨nx, 0, none⟩ (.slice (some ⟨g, 0, none⟩) (E1.length + 1) c3))) := hMA.put hown hgrow HE1.out HXj.out rfl HWr.out HOk.out
        refine hK.out _ _ (.inr hSG) ?_
        clear hK K hown hat hgt kX kG hMA hgrow
        try simp only [Act.put, List.setIfInBounds_toArray, List.set_cons_zero, List.set_cons_succ]
        refine wpAnyF_next (i := 8) rfl (by kernel_rfl) (fun K hK => ?_)
        go_simp
        refine hK.out _ _ (.inr hSG) ?_
        clear hK K
        try simp only [Act.put, List.setIfInBounds_toArray, List.set_cons_zero, List.set_cons_succ]
        refine wpAnyF_next (i := 9) rfl (by kernel_rfl) (fun K hK => ?_)
        go_simp
        refine hK.out _ _ (.inr hSG) ?_
        clear hK K
        try simp only [Act.put, List.setIfInBounds_toArray, List.set_cons_zero, List.set_cons_succ]
        refine wpAnyF_next (i := 10) rfl (by kernel_rfl) (fun K hK => ?_)
        go_simp
        refine hK.out _ _ (.inl rfl) ?_
        clear hK K
        try simp only [Act.put, List.setIfInBounds_toArray, List.set_cons_zero, List.set_cons_succ]
        refine wpAnyF_done (by kernel_rfl) ?_ _
        clear hSG hSd HC bA bd m0 mf
        have hlt := HLt.out
        go_wp2_with fail
        go_roundw
        case rel => exact ⟨j + 1, by omega, by go_num, HFin⟩
        case measure => simp [intOf]; omega
      · obtain ⟨N, hN⟩ : ∃ N, wrongE (E.map En.p ++ ((X.map En.p).take j).map (stamp per seq)) ⟨⟨con, day, cur, sq, pr, ref⟩, ls⟩ = N := ⟨_, rfl⟩
        have HBad : Hid (∀ w', Below w.heap.size w w' → RPostEnd w q E true false per seq X (.returned (.int .i64 N)) w') := fun w' hb => RPostEnd.bad HL.out hb (by rw [HPE.out, postK_bad HXj.out HOk.out (by exact hwr)]; exact hN) (by rw [← hN]; exact hwr)
        have d6 : (N == 0) = false := by rw [beq_eq_false_iff_ne, ← hN]; exact hwr
        have d7 : (N != 0) = true := by rw [bne_iff_ne, ← hN]; exact hwr
        rw [hN]
        have HB6 := Lib.hid hB6
        clear hwr hN hb6 hB6 HCk HLr HOr HCl
        go_wp2_with fail
        go_ret
        exact HBad.out _ HB6.out
    · obtain rfl : j = X.length := by omega
      obtain ⟨a1, c1, E1, hL1, ho1, hE1, hf1⟩ := HQ.out.ex
      have hok := HQ.out.ok
      have hfull : postK per seq (E.map En.p) (X.map En.p) = (0, E.map En.p ++ (X.map En.p).map (stamp per seq)) := postK_ok fun i z hz => hok i (by have := (List.getElem?_eq_some_iff.1 hz).1; rw [List.length_map] at this; exact this) z hz
      have hpe : postE true false per seq (E.map En.p) (X.map En.p) = 0 := by rw [HPE.out, hfull]
      rw [List.take_of_length_le (by simp)] at hE1
      have hBr := HQ.out.be
      have hLw := HL.out.after hBr
      have k0 : wr.cell? ⟨nx, 0, none⟩ = some (.slice a1 E1.length c1) := hL1.at'.blk.cell 0 rfl
      have m0 : wr.cell? ⟨q, 0, none⟩ = some (.slice a E.length cap) := hLw.at'.blk.cell 0 rfl
      have f0 := hLw.at'.blk.free 0
      have hT : Turn [q] wr (wr.setCell ⟨q, 0, none⟩ (.slice a1 E1.length c1)) := Turn.of_grown (grown_setCell wr q 0 _) (by simp)
      have hQb : ∀ p ∈ [q], QBox wr p := fun p hp => by rw [List.mem_singleton.1 hp]; exact hLw.box
      have HFin : Hid (RPostEnd w q E true false per seq X (.returned (.int .i64 0)) (wr.setCell ⟨q, 0, none⟩ (.slice a1 E1.length c1))) := by
        refine ⟨a1, c1, E1, by rw [hpe], ⟨⟨hLw.at'.blk.set 0 (.slice a1 E1.length c1), hL1.at'.sl.turn3 hT hQb, fun e he => (hL1.at'.ok e he).turn3 hT hQb⟩, hL1.nil⟩, ?_, ?_⟩
        · unfold postL; rw [hpe, if_pos rfl]; exact hE1
        · exact (Turn.of_below hBr |> fun h => (⟨h.os, h.tape, h.output, h.size, h.block⟩ : Turn [q] w wr)).trans hT
      clear hL1 ho1 hE1 hf1 hok hfull hpe hBr hLw hT HQ hQb
      go_wp2_with fail
      go_ret
      exact HFin.out

theorem rpost_ok (q : Nat) (a : Option Addr) (cap : Nat) (E : List En) (there lk : Bool) (per seq : Int) (ea : Option Addr) (ecap : Nat) (X : List En) (w : World) (h : RqOk w q a cap E) (hw : WL (E.map En.p)) (hl : E.length ≤ 900000) (h3 : there = true → 0 ≤ per) (hx : EnsAt w ea X) (hxl : X.length ≤ 1000) :
    Calls Tryd.prog 38 #[.pointer (some ⟨q, 0, none⟩), .bool there, .bool lk, .int .i64 per, .int .i64 seq, .slice ea X.length ecap] w (RPostEnd w q E there lk per seq X) := by
  cases there with
  | false => exact rpost_none q a cap E lk per seq ea ecap X w h
  | true =>
    cases lk with
    | true => exact rpost_lock q a cap E per seq ea ecap X w h
    | false =>
      by_cases h6 : seq < 0 ∨ seq < seqOf (E.map En.p)
      · exact rpost_seq q a cap E per seq ea ecap X w h hl h6
      · exact rpost_main q a cap E per seq ea ecap X w h hw hl (h3 rfl) (by omega) (by omega) hx hxl

end Go.Proofs.YtpinhomalmknjaaDoor
