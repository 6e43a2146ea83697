/- append of nodes onto a row of one's own; term.Join. -/
import Derived.Test.YtglnnllodoljkaaDoorJoinB
import Derived.Test.YtglnnllodoljkaaDoorHeldIn
namespace Go.Proofs.YtglnnllodoljkaaDoor
open Go.RowKit Go.Shelf
set_option linter.unusedVariables false
set_option linter.unusedSimpArgs false

theorem wp_append_nodes {w : World} {o : Oper} {a : Act} {K : Act → World → Prop} {Q : Exit → Act → World → Prop} (s x : Operand)
    (ho : o.op = .call { callee := .builtin .append, args := #[s, x], argTypes := #[22, 22] }) (base k : Nat) {v : Value} (xs : List Nd) (hs : a.eval s = v) (hown : w.ownsRow base 47 5 v k (ndCells xs))
    (c : Option Addr) (L cap : Nat) (ys : List Nd) (hx : a.eval x = .slice c L cap) (hN : NdsAt w c ys) (hL : L = ys.length) (hc : c = none → ys.length = 0 ∧ cap = 0) (hbase : base ≤ w.heap.size) (hb : k + L ≤ 1000000)
    (h : ∀ v' w', w'.ownsRow base 47 5 v' (k + L) (ndCells (xs ++ ys)) → Below base w w' → K (a.put o.dst v') w') : o.wp Tryd.prog a w K Q := by
  subst hL
  obtain ⟨i0, hi, hz0, hz1, hz2⟩ := info_parts infoNode
  cases c with
  | none =>
    obtain ⟨q4, rfl⟩ := hc rfl
    obtain rfl : ys = [] := List.length_eq_zero_iff.1 q4
    have hrun := run_append_owned_none (P := Tryd.prog) (w := w) base 22 o.type 47 i0 5 Tryd.underlying22 hi v k (ndCells xs) hown
    unfold Oper.wp
    rw [show (([] : List Nd).length) = 0 from rfl] at hx
    simp [execOp, ho, resolve, invoke, builtin, hs, hx, hrun, Result.andThen]
    refine h v w ?_ (Below.refl _ _)
    rw [List.append_nil]
    exact hown
  | some y =>
    refine wp_append_own w s x 22 ho base 47 i0 _ 5 40 Tryd.underlying22 hi hz0 hz1 hz2 rfl (by decide) v k (ndCells xs) hs hown y ys.length cap (ndCells ys) hx (by rw [ndCells_len]) (fun j u hj => RowsAt.cells (f := Nd.row ys) hN (fun _ => rfl) rfl j u (by rw [ndCells_flat]; exact hj)) (ndCells_one ys) (by unfold maxLen; omega) (by omega) hbase fun v' w' h1 h2 h3 => h v' w' (by rw [ndCells_append]; exact h1) ?_
    exact (Below.refl base w).grown h2 hbase (fun q e => (owned_parts hown).elim fun a h => h.elim fun cap h => by
      obtain ⟨e1, _, _, _, h5, _⟩ := h
      subst e1
      cases a with
      | none => cases e
      | some y => cases e; exact (h5 _ rfl).1)

/-- Where the k-th part begins. -/
def startN (ps : List Pt) (k : Nat) : Nat := 1 + (catN (ps.take k)).length
/-- Whether parts are the terms below a node. -/
def partOk (n : Nd) (ps : List Pt) (k : Nat) : Prop := (Pt.at ps k).ns.length ≠ 0 ∧ endV (n :: catN ps) (startN ps k) = (startN ps (k + 1) : Int)
instance (n : Nd) (ps : List Pt) (k : Nat) : Decidable (partOk n ps k) := inferInstanceAs (Decidable (_ ∧ _))
def partsOk (n : Nd) (ps : List Pt) : Prop := ∀ k, k < ps.length → partOk n ps k
instance (n : Nd) (ps : List Pt) : Decidable (partsOk n ps) := inferInstanceAs (Decidable (∀ k, k < _ → partOk n ps k))
/-- What is wrong with a joining. -/
def joinE (n : Nd) (ps : List Pt) : Int := if (ofV (n :: catN ps)).2 ≠ 0 then (ofV (n :: catN ps)).2 else if partsOk n ps then 0 else 14
def JoinEnd (n : Nd) (ps : List Pt) (w : World) (e : Ending) (w' : World) : Prop :=
  ∃ v, e = .returned (.tuple #[v, .int .i64 (joinE n ps)]) ∧ (joinE n ps = 0 → w'.ownsRow w.heap.size 47 5 v (1 + (catN ps).length) (ndCells (n :: catN ps))) ∧ (joinE n ps ≠ 0 → v = .slice none 0 0) ∧ Below w.heap.size w w'

structure Seen5 (W : World) (B : Nat) (n : Nd) : Prop where
  c0 : W.cell? ⟨B, 0, none⟩ = some (.int .i64 n.op)
  c1 : W.cell? ⟨B, 1, none⟩ = some (.int .i64 n.a)
  c2 : W.cell? ⟨B, 2, none⟩ = some (.int .i64 n.b)
  c3 : W.cell? ⟨B, 3, none⟩ = some (.int .i64 n.num)
  c4 : W.cell? ⟨B, 4, none⟩ = some (.int .i64 n.den)
theorem Seen5.after {W W' : World} {B : Nat} {n : Nd} (h : Seen5 W B n) (hb : Below W.heap.size W W') : Seen5 W' B n := ⟨below_cell hb h.c0, below_cell hb h.c1, below_cell hb h.c2, below_cell hb h.c3, below_cell hb h.c4⟩

theorem Seen5.below {W W' : World} {B N : Nat} {n : Nd} (h : Seen5 W B n) (hb : Below N W W') (hB : B < N) : Seen5 W' B n :=
  ⟨(hb.cell (p := ⟨B, 0, none⟩) hB).trans h.c0, (hb.cell (p := ⟨B, 1, none⟩) hB).trans h.c1, (hb.cell (p := ⟨B, 2, none⟩) hB).trans h.c2, (hb.cell (p := ⟨B, 3, none⟩) hB).trans h.c3, (hb.cell (p := ⟨B, 4, none⟩) hB).trans h.c4⟩
theorem own_after {w w' : World} {base e size n : Nat} {v : Value} {xs : List Value} (h : w.ownsRow base e size v n xs) (hb : Below w.heap.size w w') : w'.ownsRow base e size v n xs := h.kept (row := none) (below_grown hb) (Classical.em _)
theorem startN_succ (ps : List Pt) (k : Nat) (h : k < ps.length) : startN ps (k + 1) = startN ps k + (Pt.at ps k).ns.length := by
  unfold startN
  rw [catN_succ ps k h, List.length_append]
  omega
theorem startN_le (ps : List Pt) (k : Nat) : startN ps k ≤ 1 + (catN ps).length := by
  unfold startN
  have := catN_le ps k
  omega


set_option maxHeartbeats 4000000 in
set_option maxRecDepth 100000 in
theorem join_ok (n : Nd) (hn : n.In) (a : Option Addr) (cap : Nat) (ps : List Pt) (hl : ps.length ≤ 1000000) (hc : (catN ps).length ≤ 900000) (hI : NdsIn (n :: catN ps)) (w : World) (hS : ShapesAt w) (hP : PtsAt w a ps) :
    Calls Tryd.prog 25 #[n.val, .slice a ps.length cap] w (JoinEnd n ps w) := by
  have HP := Lib.hid hP
  have HC := Lib.hid hc
  have HS := Lib.hid hS
  have HI := Lib.hid hI
  clear hP hc hS hI
  unfold Nd.val
  have HEND : Hid (JoinEnd n ps w = fun e w' => ∃ v, e = .returned (.tuple #[v, .int .i64 (joinE n ps)]) ∧ (joinE n ps = 0 → w'.ownsRow w.heap.size 47 5 v (1 + (catN ps).length) (ndCells (n :: catN ps))) ∧ (joinE n ps ≠ 0 → v = .slice none 0 0) ∧ Below w.heap.size w w') := rfl
  obtain ⟨wa, hwa⟩ : ∃ wa, w.alloc (.cells #[.int .i64 n.op, .int .i64 n.a, .int .i64 n.b, .int .i64 n.num, .int .i64 n.den] 47) = wa := ⟨_, rfl⟩
  have ba : Hid (Below w.heap.size w wa) := by show Below _ _ _; rw [← hwa]; exact (Below.refl _ _).alloc (Nat.le_refl _) _
  have k0 : Blk wa w.heap.size #[.int .i64 n.op, .int .i64 n.a, .int .i64 n.b, .int .i64 n.num, .int .i64 n.den] 47 := by rw [← hwa]; exact Blk.new _ _ _
  have hs5 : Hid (Seen5 wa.drew w.heap.size n) := ⟨k0.cell 0 rfl, k0.cell 1 rfl, k0.cell 2 rfl, k0.cell 3 rfl, k0.cell 4 rfl⟩
  have za : Hid (wa.heap.size = w.heap.size + 1) := by show _ = _; rw [← hwa]; simp
  clear k0
  go_enter Tryd.func25, Tryd.ntmps25
  go_wp2_with fail
  rename_i K1 aK1
  have hfin : Hid (∀ (u13 u14 u15 v : Value) (wf : World), wf.ownsRow w.heap.size 47 5 v (1 + (catN ps).length) (ndCells (n :: catN ps)) → Below w.heap.size w wf →
      K1 { tmps := #[.agg #[.int .i64 n.op, .int .i64 n.a, .int .i64 n.b, .int .i64 n.num, .int .i64 n.den], .slice a ps.length cap, .pointer (some ⟨w.heap.size, 0, none⟩), undef, .slice none 0 0, .int .i64 0, v, undef, undef, undef, undef, undef,
        .agg #[.int .i64 n.op, .int .i64 n.a, .int .i64 n.b, .int .i64 n.num, .int .i64 n.den], u13, u14, u15, v, undef, undef, undef, undef, undef, undef, undef, undef, undef, undef, undef, undef, undef, undef, undef, undef, undef, undef, undef, undef, undef, undef, undef, undef, undef, undef, undef, undef, undef, undef, undef, undef, undef], defers := [] } wf) := by
    intro u13 u14 u15 v wf hown hbf
    have HOW := Lib.hid hown
    have HBF := Lib.hid hbf
    obtain ⟨oa, ocap, rfl, _, _, _, hoN⟩ := nds_own hown (by simp; omega)
    have HON := Lib.hid hoN
    have hlen : (n :: catN ps).length ≤ 1000000 := by have := HC.out; simp; omega
    have HO := Lib.hid (of_term_ok oa ocap (n :: catN ps) hlen HI.out wf (HS.out.after hbf) hoN)
    have HE := Lib.hid (fun i hi w hS hN => end_ok oa ocap (n :: catN ps) hlen ((n :: catN ps).length - i) i (Nat.le_refl _) hi w hS hN)
    have HJ : Hid (joinE n ps = if (ofV (n :: catN ps)).2 ≠ 0 then (ofV (n :: catN ps)).2 else if partsOk n ps then 0 else 14) := rfl
    obtain ⟨J, hJ⟩ : ∃ J, joinE n ps = J := ⟨_, rfl⟩
    have HJJ := Lib.hid hJ
    obtain ⟨T, hT⟩ : ∃ T, (n :: catN ps).length = T := ⟨_, rfl⟩
    have HT := Lib.hid hT
    obtain ⟨ov, hov⟩ : ∃ ov, ofV (n :: catN ps) = ov := ⟨_, rfl⟩
    rw [hT] at HO HE hlen ⊢
    rw [hov] at HO HJ
    rw [hJ] at HJ
    obtain ⟨so, er⟩ := ov
    dsimp only at HO HJ
    clear hown hbf hoN hJ hT hov
    refine aK1 _ _ ?_
    clear aK1
    go_wp2_with fail
    with_reducible refine HO.out.mono ?_
    rintro e w1 ⟨rfl, hb1⟩
    have HB1 := Lib.hid hb1
    clear hb1 HO
    by_cases her : er = 0
    · subst her
      rw [if_neg (by simp)] at HJ
      go_wp2_with fail
      go_loopw [9, 27] (fun s c wr => ∃ k : Nat, k ≤ ps.length ∧ c = .int .i64 (k : Int) ∧ s = .int .i64 (startN ps k : Int) ∧ Hid (∀ j, j < k → partOk n ps j) ∧ Below wf.heap.size wf wr) (fun _ c _ => ps.length - (intOf c).toNat)
      case atStart => exact ⟨0, by omega, by simp, by simp [startN, catN], (fun j hj => by omega), HB1.out⟩
      case round =>
        obtain ⟨k, hk, rfl, rfl, HK, hbl⟩ := hrel
        have HBL := Lib.hid hbl
        have hbw := Lib.hid (HBF.out.trans (hbl.mono HBF.out.size))
        by_cases hlt : k < ps.length
        · have hlt' : (k : Int) < (ps.length : Int) := by omega
          obtain ⟨b, o, rfl, hcc⟩ := (HP.out.after hbw.out).1 (by omega)
          have c0 : wr.cell? ⟨b, o + k, none⟩ = some (.slice (Pt.at ps k).a (Pt.at ps k).ns.length (Pt.at ps k).cap) := by
            have := hcc k hlt 0 _ rfl
            rwa [Nat.mul_one, Nat.add_zero] at this
          have hst := Lib.hid (startN_succ ps k hlt)
          have hle := startN_le ps k
          have hle2 := startN_le ps (k + 1)
          have hpk : Hid (partOk n ps k ↔ ((Pt.at ps k).ns.length ≠ 0 ∧ endV (n :: catN ps) (startN ps k) = (startN ps (k + 1) : Int))) := Iff.rfl
          have HEE := Lib.hid (HE.out (startN ps k) (by have := HC.out; omega) wr (HS.out.after hbw.out) (HON.out.after hbl))
          obtain ⟨⟨pa, pc, pn⟩, hpp⟩ : ∃ p, Pt.at ps k = p := ⟨_, rfl⟩
          rw [hpp] at c0 hpk hst
          dsimp only at c0 hpk hst
          obtain ⟨x, hx⟩ : ∃ x, pn.length = x := ⟨_, rfl⟩
          obtain ⟨y, hy⟩ : ∃ y, startN ps k = y := ⟨_, rfl⟩
          obtain ⟨y', hy'⟩ : ∃ y, startN ps (k + 1) = y := ⟨_, rfl⟩
          obtain ⟨E, hE⟩ : ∃ y, endV (n :: catN ps) (startN ps k) = y := ⟨_, rfl⟩
          rw [hE] at HEE hpk
          rw [hx] at c0 hpk hst
          rw [hy] at HEE hst hle ⊢
          rw [hy'] at hst hpk hle2
          have HY := Lib.hid hy'
          have hcb := HC.out
          have hxy : (y : Int) + (x : Int) = (y' : Int) := by have := hst.out; omega
          have hwy : IntKind.i64.wrap ((y : Int) + (x : Int)) = (y' : Int) := by rw [hxy]; exact IntWalk.i64_in _ (by omega)
          have hwk : IntKind.i64.wrap ((k : Int) + 1) = (k : Int) + 1 := IntWalk.i64_in _ (by omega)
          have HLT := Lib.hid hlt
          clear hcc hpp hx hy hy' hE hst hle hle2 hcb hlt hxy
          by_cases hx0 : x = 0
          · have hxb : ((x : Int) == 0) = true := by simp [hx0]
            have hbad : Hid (J = 14) := by
              show J = 14
              rw [HJ.out, if_neg (fun h => (hpk.out.1 (h k HLT.out)).1 hx0)]
            subst hx0
            have hz : ((0 : Nat) : Int) = 0 := rfl
            go_wp2_with fail
            rw [HEND.out]
            refine bodyPost_ret (results_tmp2 rfl _ _ _) rfl ?_
            refine ⟨_, by rw [HJJ.out, hbad.out]; rfl, fun h => absurd (hbad.out.symm.trans (HJJ.out.symm.trans h)) (by decide), fun _ => rfl, hbw.out⟩
          · have hxb : ((x : Int) == 0) = false := by simp [hx0]
            have hxi : (x : Int) ≠ 0 := by omega
            have HX0 := Lib.hid hx0
            clear hx0
            by_cases hee : E = (y' : Int)
            · have heb : (E != (y' : Int)) = false := by simp [hee]
              have hok : Hid (partOk n ps k) := hpk.out.2 ⟨HX0.out, hee⟩
              have HKN : Hid (∀ j, j < k + 1 → partOk n ps j) := fun j hj => by
                rcases Nat.lt_or_ge j k with h | h
                · exact HK.out j h
                · obtain rfl : j = k := by omega
                  exact hok.out
              subst hee
              go_wp2_with fail
              with_reducible refine HEE.out.mono ?_
              rintro e w5 ⟨rfl, hb5⟩
              have HB5 := Lib.hid (HBL.out.trans (hb5.mono HBL.out.size))
              clear hb5
              go_wp2_with fail
              go_roundw
              case rel => exact ⟨k + 1, by have := HLT.out; omega, by go_num, by rw [HY.out], HKN, HB5.out⟩
              case measure => have := HLT.out; simp [intOf]; omega
            · have heb : (E != (y' : Int)) = true := by simp [hee]
              have hbad : Hid (J = 14) := by
                show J = 14
                rw [HJ.out, if_neg (fun h => hee (hpk.out.1 (h k HLT.out)).2)]
              clear hee
              go_wp2_with fail
              with_reducible refine HEE.out.mono ?_
              rintro e w5 ⟨rfl, hb5⟩
              have HB5 := Lib.hid (hbw.out.trans (hb5.mono hbw.out.size))
              clear hb5
              go_wp2_with fail
              rw [HEND.out]
              refine bodyPost_ret (results_tmp2 rfl _ _ _) rfl ?_
              refine ⟨_, by rw [HJJ.out, hbad.out]; rfl, fun h => absurd (hbad.out.symm.trans (HJJ.out.symm.trans h)) (by decide), fun _ => rfl, HB5.out⟩
        · obtain rfl : k = ps.length := by omega
          have hgood : Hid (J = 0) := by
            show J = 0
            rw [HJ.out, if_pos (show partsOk n ps from HK.out)]
          go_wp2_with fail
          rw [HEND.out]
          refine bodyPost_ret (results_tmp2 rfl _ _ _) rfl ?_
          refine ⟨_, by rw [HJJ.out, hgood.out]; rfl, fun _ => ?_, fun h => absurd (HJJ.out.trans hgood.out) h, hbw.out⟩
          have := own_after HOW.out hbl
          rw [HT.out] at this
          exact this
    · rw [if_pos her] at HJ
      go_wp2_with fail
      rw [HEND.out]
      refine bodyPost_ret (results_tmp2 rfl _ _ _) rfl ?_
      refine ⟨_, by rw [HJJ.out, HJ.out]; rfl, fun h => absurd (HJ.out.symm.trans (HJJ.out.symm.trans h)) her, fun _ => rfl, HBF.out.trans (HB1.out.mono HBF.out.size)⟩
  clear aK1
  refine region_plain (fun w' => Seen5 w' w.heap.size n) (by kernel_rfl) ?_
  obtain ⟨wd, hwd⟩ : ∃ wd, wa.drew = wd := ⟨_, rfl⟩
  have hbd : Hid (Below w.heap.size w wd) := by show Below _ _ _; rw [← hwd]; exact ba.out.trans (Below.refl _ _).drew
  have zd : Hid (wd.heap.size = w.heap.size + 1) := by show _ = _; rw [← hwd]; exact za.out
  have hSd := hs5.out
  rw [hwd] at hSd ⊢
  clear hwd hs5 ba hwa
  refine wpAnyH_takes (i := 0) (v := ?_) rfl (by kernel_rfl) (fun _ _ _ h => h) (by rfl) hSd ?_ ?_
  rotate_left 1
  · intro w hSw
    obtain ⟨s1, s2, s3, s4, s5⟩ := hSw
    go_simp
    try with_reducible rfl
  try simp only [Act.put, List.setIfInBounds_toArray, List.set_cons_zero, List.set_cons_succ]
  refine wpAnyH_takes (i := 2) (v := ?_) rfl (by kernel_rfl) (fun _ _ _ h => h) (by rfl) hSd ?_ ?_
  rotate_left 1
  · intro w hSw
    obtain ⟨s1, s2, s3, s4, s5⟩ := hSw
    go_simp
    try with_reducible rfl
  try simp only [Act.put, List.setIfInBounds_toArray, List.set_cons_zero, List.set_cons_succ]
  have HCat := Lib.hid (fun w hP => concat_ok a cap ps hl (by have := HC.out; omega) w hP)
  refine wpAnyH_two (i := 1) (j := 3) rfl rfl (by kernel_rfl) ?_ ?_
  · intro K hK
    go_simp
    obtain ⟨w2, hw2⟩ : ∃ w2, wd.alloc (.cells #[.int .i64 n.op, .int .i64 n.a, .int .i64 n.b, .int .i64 n.num, .int .i64 n.den] 47) = w2 := ⟨_, rfl⟩
    have b2 : Below wd.heap.size wd w2 := by rw [← hw2]; exact (Below.refl _ _).alloc (Nat.le_refl _) _
    have o2 : Hid (w2.ownsRow wd.heap.size 47 5 (.slice (some ⟨wd.heap.size, 0, none⟩) 1 1) 1 (ndCells [n])) := by
      show w2.ownsRow _ _ _ _ _ _
      rw [← hw2]
      exact World.ownsRow_lit wd #[.int .i64 n.op, .int .i64 n.a, .int .i64 n.b, .int .i64 n.num, .int .i64 n.den] 1 (Nat.le_refl _) (by unfold maxLen; omega) rfl
    rw [hw2]
    have hS2 := hSd.after b2
    refine hK.out _ _ (hS2) ?_
    clear hK K
    try simp only [Act.put, List.setIfInBounds_toArray, List.set_cons_zero, List.set_cons_succ]
    refine wpAnyH_nexts (i := 3) rfl (by kernel_rfl) ?_
    intro K hK
    go_simp
    with_reducible refine (HCat.out w2 ((HP.out.after (hbd.out)).after b2)).mono ?_
    rintro e w3 ⟨v, rfl, hown, hb3⟩
    obtain ⟨c, ccap, rfl, hc0, _, hcb, hcn⟩ := nds_own hown rfl
    have hS3 := hS2.after hb3
    refine hK.out _ _ (hS3) ?_
    clear hK K
    try simp only [Act.put, List.setIfInBounds_toArray, List.set_cons_zero, List.set_cons_succ]
    refine wpAnyH_nexts (i := 4) rfl (by kernel_rfl) ?_
    intro K hK
    rw [if_pos (by rfl)]
    refine wp_append_nodes _ _ rfl wd.heap.size 1 [n] rfl (own_after o2.out hb3) c (catN ps).length ccap (catN ps) rfl hcn rfl hc0 (by have := b2.size; have := hb3.size; omega) (by have := HC.out; omega) ?_
    intro v4 w4 hown4 hb4
    have z2 := b2.size
    have z3 := hb3.size
    have hS4 : Seen5 w4 w.heap.size n := hS3.below hb4 (by have := zd.out; omega)
    refine hK.out _ _ (hS4) ?_
    clear hK K
    try simp only [Act.put, List.setIfInBounds_toArray, List.set_cons_zero, List.set_cons_succ]
    refine wpAnyH_takes (i := 5) (v := ?_) rfl (by kernel_rfl) (fun _ _ _ h => h) (by rfl) hS4 ?_ ?_
    rotate_left 1
    · intro w hSw
      obtain ⟨s1, s2, s3, s4, s5⟩ := hSw
      go_simp
      try with_reducible rfl
    try simp only [Act.put, List.setIfInBounds_toArray, List.set_cons_zero, List.set_cons_succ]
    refine wpAnyH_done (by kernel_rfl) ?_ _
    show K1 _ _
    exact hfin.out _ _ _ _ w4 (own_base hown4 (by have := zd.out; omega)) (hbd.out.trans (((b2.mono (by have := zd.out; omega)).trans (hb3.mono (by have := zd.out; omega))).trans (hb4.mono (by have := zd.out; omega))))
  · intro K hK
    go_simp
    with_reducible refine (HCat.out wd (HP.out.after hbd.out)).mono ?_
    rintro e w3 ⟨v, rfl, hown, hb3⟩
    obtain ⟨c, ccap, rfl, hc0, _, hcb, hcn⟩ := nds_own hown rfl
    have hS3 := hSd.after hb3
    refine hK.out _ _ (hS3) ?_
    clear hK K
    try simp only [Act.put, List.setIfInBounds_toArray, List.set_cons_zero, List.set_cons_succ]
    refine wpAnyH_nexts (i := 1) rfl (by kernel_rfl) ?_
    intro K hK
    go_simp
    obtain ⟨w2, hw2⟩ : ∃ w2, w3.alloc (.cells #[.int .i64 n.op, .int .i64 n.a, .int .i64 n.b, .int .i64 n.num, .int .i64 n.den] 47) = w2 := ⟨_, rfl⟩
    have b2 : Below w3.heap.size w3 w2 := by rw [← hw2]; exact (Below.refl _ _).alloc (Nat.le_refl _) _
    have o2 : Hid (w2.ownsRow wd.heap.size 47 5 (.slice (some ⟨w3.heap.size, 0, none⟩) 1 1) 1 (ndCells [n])) := by
      show w2.ownsRow _ _ _ _ _ _
      rw [← hw2]
      exact World.ownsRow_lit w3 #[.int .i64 n.op, .int .i64 n.a, .int .i64 n.b, .int .i64 n.num, .int .i64 n.den] 1 hb3.size (by unfold maxLen; omega) rfl
    rw [hw2]
    have hS2 := hS3.after b2
    refine hK.out _ _ (hS2) ?_
    clear hK K
    try simp only [Act.put, List.setIfInBounds_toArray, List.set_cons_zero, List.set_cons_succ]
    refine wpAnyH_nexts (i := 4) rfl (by kernel_rfl) ?_
    intro K hK
    rw [if_pos (by rfl)]
    refine wp_append_nodes _ _ rfl wd.heap.size 1 [n] rfl o2.out c (catN ps).length ccap (catN ps) rfl (hcn.after b2) rfl hc0 (by have := b2.size; have := hb3.size; omega) (by have := HC.out; omega) ?_
    intro v4 w4 hown4 hb4
    have z2 := b2.size
    have z3 := hb3.size
    have hS4 : Seen5 w4 w.heap.size n := hS2.below hb4 (by have := zd.out; omega)
    refine hK.out _ _ (hS4) ?_
    clear hK K
    try simp only [Act.put, List.setIfInBounds_toArray, List.set_cons_zero, List.set_cons_succ]
    refine wpAnyH_takes (i := 5) (v := ?_) rfl (by kernel_rfl) (fun _ _ _ h => h) (by rfl) hS4 ?_ ?_
    rotate_left 1
    · intro w hSw
      obtain ⟨s1, s2, s3, s4, s5⟩ := hSw
      go_simp
      try with_reducible rfl
    try simp only [Act.put, List.setIfInBounds_toArray, List.set_cons_zero, List.set_cons_succ]
    refine wpAnyH_done (by kernel_rfl) ?_ _
    show K1 _ _
    exact hfin.out _ _ _ _ w4 (own_base hown4 (by have := zd.out; omega)) (hbd.out.trans (((hb3.mono (by have := zd.out; omega)).trans (b2.mono (by have := zd.out; omega))).trans (hb4.mono (by have := zd.out; omega))))

end Go.Proofs.YtglnnllodoljkaaDoor
