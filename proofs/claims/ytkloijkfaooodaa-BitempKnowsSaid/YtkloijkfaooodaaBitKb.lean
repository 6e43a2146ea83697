/- Package bitemp: AsOf. -/
import Derived.Test.YtkloijkfaooodaaBitKa
import Derived.Test.YtkloijkfaooodaaBitCm
import Derived.Test.YtkloijkfaooodaaRangeC
namespace Go.Proofs.Ytkloijkfaooodaa
open Go.RowKit Go.Sort Go.Shelf
set_option linter.unusedVariables false
set_option linter.unusedSimpArgs false
attribute [local go_sem] Oper.semAt_some

theorem fin_take (m j : Nat) (h : j < m) : (List.finRange m).take (j + 1) = (List.finRange m).take j ++ [⟨j, h⟩] := by
  rw [List.take_succ_eq_append_getElem (by simpa using h), List.getElem_finRange]
  rfl
/-- What was gone through. -/
def VM (V : List Vs) (pre : List (Fin V.length)) : List Vs := pre.map fun i => V[i]
theorem VM_snoc (V : List Vs) (pre : List (Fin V.length)) (x : Fin V.length) : VM V (pre ++ [x]) = VM V pre ++ [V[x]] := by unfold VM; rw [List.map_append]; rfl
theorem VM_all (V : List Vs) : VM V (List.finRange V.length) = V := by
  refine List.ext_getElem (by simp [VM]) fun i h1 h2 => ?_
  simp [VM]
theorem VM_take (V : List Vs) (k : Nat) : VM V ((List.finRange V.length).take k) = V.take k := by
  unfold VM
  rw [List.map_take]
  exact congrArg (List.take k) (VM_all V)
theorem pre_take {m : Nat} {pre : List (Fin m)} (h : pre <+: List.finRange m) : pre = (List.finRange m).take pre.length ∧ pre.length ≤ m := by
  refine ⟨List.prefix_iff_eq_take.1 h, ?_⟩
  have := h.length_le
  simpa using this
theorem pre_snoc {m : Nat} {q : List (Fin m)} {x : Fin m} (h : (q ++ [x]) <+: List.finRange m) : ∃ hq : q.length < m, q = (List.finRange m).take q.length ∧ x = ⟨q.length, hq⟩ := by
  have hp := pre_take h
  have hle : q.length < m := by have := hp.2; simp at this; omega
  have h1 := hp.1
  simp only [List.length_append, List.length_singleton] at h1
  rw [fin_take m q.length hle] at h1
  exact ⟨hle, (List.append_inj' h1 rfl).1, by simpa using (List.append_inj' h1 rfl).2⟩
set_option maxRecDepth 100000 in
set_option maxHeartbeats 2000000 in
theorem valF_stops (n : Nat) (hn : 1 ≤ n) (n₁ n₀ Bs : Nat) (A : List Vs) (hl : A.length ≤ 2513169434910) (w0 : World) (h0 : SeqM w0 n₁ n₀ Bs A) (hn0 : n₀ ≤ w0.heap.size) :
    SeqStopsK Fence.wide n Try.prog 56 #[.pointer (some ⟨Bs, 0, none⟩)] (fun (i : Fin A.length) => encVV A[i]) (Mid n₁ n₀) (fun xs => xs = List.finRange A.length) (fun pre => pre <+: List.finRange A.length) A.length w0 := fun l J Jx W hW hJ hJx hY hJ0 => by
  have HS := Lib.hid (h0.mid (Mid.of_below (hW.mono hn0)))
  obtain ⟨a, cap, hB, _⟩ := HS.out
  have q1 : W.cell? ⟨Bs, 0, none⟩ = some (.slice a A.length cap) := hB.cell 0 rfl
  have HR : Hid (RecsAt W a 7 encS A) := by
    obtain ⟨a', cap', hB', hR', _⟩ := HS.out
    have := hB.symm.trans hB'
    simp only [Option.some.injEq, Obj.cells.injEq, Array.mk.injEq, List.cons.injEq, Value.slice.injEq, and_true, true_and] at this
    obtain ⟨rfl, rfl⟩ := this
    exact hR'
  have HA : Hid (∀ x, a = some x → n₁ ≤ x.block ∧ x.block < n₀) := by
    obtain ⟨a', cap', hB', _, _, hA'⟩ := HS.out
    have := hB.symm.trans hB'
    simp only [Option.some.injEq, Obj.cells.injEq, Array.mk.injEq, List.cons.injEq, Value.slice.injEq, and_true, true_and] at this
    obtain ⟨rfl, rfl⟩ := this
    exact hA'
  have zW := hW.size
  clear hB h0
  refine callsIn_of_wp Try.func56 rfl trivial ?_ rfl
  simp only [Try.ntmps56, List.size_toArray, List.length_cons, List.length_nil, Nat.reduceAdd, Nat.reduceSub, Array.replicate_succ, Array.replicate_zero, List.push_toArray, List.append_toArray, List.nil_append, List.cons_append]
  gi_wp2_with fail
  gi_loopw [7] (fun c wr => ∃ j : Nat, j ≤ A.length ∧ c = .int .i64 (j : Int) ∧ J ((List.finRange A.length).take j) wr ∧ Mid n₁ n₀ W wr) (fun c _ => A.length - (intOf c).toNat)
  case atStart => exact ⟨0, by omega, rfl, hJ0, Mid.refl _ _ _⟩
  case round =>
    obtain ⟨j, hj, rfl, hJk, hbk⟩ := hrel
    have zk := hbk.size
    clear q1
    by_cases hlt : j < A.length
    · have hx := List.getElem?_eq_getElem hlt
      have HT : Hid ((List.finRange A.length).take (j + 1) = (List.finRange A.length).take j ++ [⟨j, hlt⟩]) := fin_take _ j hlt
      obtain ⟨z, hz⟩ : ∃ z, A[j] = z := ⟨_, rfl⟩
      rw [hz] at hx
      have hR : RecsAt wr a 7 encS A := hbk.rows HR.out HA.out
      obtain ⟨b, o, rfl, _⟩ := hR (by omega)
      have hbk' : RowKit.Below wr.heap.size wr (wr.alloc (.cells (encS z).toArray 26)) := (RowKit.Below.refl _ _).alloc (Nat.le_refl _) _
      have hJ2 : J ((List.finRange A.length).take j) (wr.alloc (.cells (encS z).toArray 26)) := hJ _ wr _ none hJk (below_grownN hbk') (by rintro r ⟨⟩)
      obtain ⟨fn, tmps, assign, body, hy, hR3⟩ := hY _ ⟨j, hlt⟩ _ hJ2 (by rw [List.length_take, List.length_finRange]; omega)
      have hz' : A[(⟨j, hlt⟩ : Fin A.length)] = z := hz
      rw [hz'] at hy
      obtain ⟨xs, xc, xk, xd, xn, xm, xp⟩ := z
      dsimp only [encVV, encS] at hy hbk' hR3
      have hR0 : RecsAt wr (some ⟨b, o, none⟩) 7 encS A := hR
      have c0 : wr.cell? ⟨b, o + j * 7, none⟩ = some (.int .i64 xs) := RecsAt.cell hR rfl hlt hx (j := 0) rfl
      have c1 : wr.cell? ⟨b, o + j * 7 + 1, none⟩ = some (.bool xc) := RecsAt.cell hR rfl hlt hx (j := 1) rfl
      have c2 : wr.cell? ⟨b, o + j * 7 + 2, none⟩ = some (.int .i64 xk) := RecsAt.cell hR rfl hlt hx (j := 2) rfl
      have c3 : wr.cell? ⟨b, o + j * 7 + 3, none⟩ = some (.int .i64 xd) := RecsAt.cell hR rfl hlt hx (j := 3) rfl
      have c4 : wr.cell? ⟨b, o + j * 7 + 4, none⟩ = some (.int .i64 xn) := RecsAt.cell hR rfl hlt hx (j := 4) rfl
      have c5 : wr.cell? ⟨b, o + j * 7 + 5, none⟩ = some (.int .i64 xm) := RecsAt.cell hR rfl hlt hx (j := 5) rfl
      have c6 : wr.cell? ⟨b, o + j * 7 + 6, none⟩ = some (.int .i64 xp) := RecsAt.cell hR rfl hlt hx (j := 6) rfl
      clear hx hz hR hR0 hJ2
      gi_wp2_with fail
      refine hR3.mono ?_
      rintro e w3 (⟨rfl, hJ3, hk3⟩ | ⟨rfl, hJx3⟩)
      · rw [← HT.out] at hJ3
        have hB3 := (hbk.trans (Mid.of_below (hbk'.mono (by omega)))).trans hk3
        gi_wp2_with fail
        go_roundw
        case rel => exact ⟨j + 1, by omega, by go_num, hJ3, hB3⟩
        case measure => simp [intOf]; omega
      · rw [← HT.out] at hJx3
        gi_wp2_with fail
        refine bodyPost_ret (results_none rfl _ _ _) rfl ?_
        exact ⟨⟨_, rfl⟩, .inr ⟨_, List.take_prefix _ _, hJx3⟩⟩
    · obtain rfl : j = A.length := by omega
      rw [List.take_of_length_le (by simp)] at hJk
      gi_wp2_with fail
      go_end0
      exact ⟨⟨_, rfl⟩, .inl ⟨_, rfl, hJk⟩⟩

theorem facts_own {β : Type} (p ba bc N : Nat) (R : β → List Fx → List Ch → Prop) (hp : p < N) (ha : ba < N) (hc : bc < N) : OwnFrom N (fun (pre : β) W => ∃ A C, R pre A C ∧ FactsAt W p ba bc A C) := fun pre X Y row ⟨A, C, hR, hs⟩ hg hr =>
  ⟨A, C, hR, hs.kept hg (fun e => by have := (hr _ e).1; omega) (fun e => by have := (hr _ e).1; omega) (fun e => by have := (hr _ e).1; omega)⟩
theorem below_own {β : Type} {n₀ N : Nat} {w : World} (hN : n₀ ≤ N) (hw : n₀ ≤ w.heap.size) : OwnFrom N (fun (_ : β) W => RowKit.Below n₀ w W) := ownFrom_below hw hN
def AsOfEnd (w : World) (V : List Vs) (s : Int) (e : Ending) (w' : World) : Prop :=
  ∃ pf ba bc A C, e = .returned (.pointer (some ⟨pf, 0, none⟩)) ∧ FactsAt w' pf ba bc A C ∧ KnowsP V s A C ∧ RowKit.Below w.heap.size w w' ∧ w.heap.size ≤ pf ∧ w.heap.size ≤ ba ∧ w.heap.size ≤ bc
def AsI (V : List Vs) (s : Int) (pf ba bc B0 Bf : Nat) (n₁ n₃ : Nat) (w0 : World) (pre : List (Fin V.length)) (W : World) : Prop :=
  (∃ A C, KnowsP (VM V pre) s A C ∧ FactsAt W pf ba bc A C) ∧ Blk W B0 #[.int .i64 s] 3 ∧ Blk W (B0 + 1) #[.pointer none] 75 ∧ Blk W Bf #[.pointer (some ⟨pf, 0, none⟩)] 75 ∧ RowKit.Below B0 w0 W ∧ n₃ ≤ W.heap.size
def AsX (V : List Vs) (s : Int) (pf ba bc B0 : Nat) (w0 : World) (c : Code) (pre : List (Fin V.length)) (W : World) : Prop :=
  (∃ A C, (c = .ret ∧ ∃ q x, pre = q ++ [x] ∧ s < V[x].s ∧ KnowsP (VM V q) s A C) ∧ FactsAt W pf ba bc A C) ∧ Blk W (B0 + 1) #[.pointer (some ⟨pf, 0, none⟩)] 75 ∧ RowKit.Below B0 w0 W
set_option maxRecDepth 100000 in
set_option maxHeartbeats 8000000 in
theorem asof_ok (base p bm : Nat) (sv : Value) (V : List Vs) (s : Int) (w : World) (h : StAt w base p bm sv V) (hl : V.length ≤ 1000) (hF : FactV V) (hle : V.Pairwise fun a b => a.s ≤ b.s) :
    Calls Try.prog 32 #[.pointer (some ⟨p, 0, none⟩), .int .i64 s] w (AsOfEnd w V s) := by
  refine (callsIn_wide (n := 5)).1 ?_
  refine callsIn_of_wp_marks Try.func32 rfl trivial ?_ rfl
  simp only [Try.ntmps32, List.size_toArray, List.length_cons, List.length_nil, Nat.reduceAdd, Nat.reduceSub, Array.replicate_succ, Array.replicate_zero, List.push_toArray, List.append_toArray, List.nil_append, List.cons_append]
  refine wpIn_wide.2 ?_
  obtain ⟨w0, hw0⟩ : ∃ W, (w.alloc (.cells #[.int .i64 s] 3)).alloc (.cells #[.pointer none] 75) = W := ⟨_, rfl⟩
  have hb0 : RowKit.Below w.heap.size w w0 := by rw [← hw0]; exact ((RowKit.Below.refl _ _).alloc (Nat.le_refl _) _).alloc (by simp) _
  have z0 : w0.heap.size = w.heap.size + 2 := by rw [← hw0]; simp
  have k0 : Blk w0 w.heap.size #[.int .i64 s] 3 := by rw [← hw0]; exact (Blk.new _ _ _).alloc _
  have k1 : Blk w0 (w.heap.size + 1) #[.pointer none] 75 := by
    rw [← hw0]
    have := Blk.new (w.alloc (.cells #[.int .i64 s] 3)) #[.pointer none] 75
    rw [World.size_alloc] at this
    exact this
  have HW0 := Lib.hid hw0
  have HB0 := Lib.hid hb0
  have K0 := Lib.hid k0
  have K1 := Lib.hid k1
  have HSt := Lib.hid h
  have HFV := Lib.hid hF
  have HLE := Lib.hid hle
  clear hw0 hb0 k0 k1 h hF hle
  go_wp2_with fail
  rw [HW0.out]
  with_reducible refine (new_ok w0).mono ?_
  rintro e w1 ⟨pf, ba, bc, rfl, hF1, hb1, gp, ga, gc⟩
  obtain ⟨w2, hw2⟩ : ∃ W, w1.alloc (.cells #[.pointer (some ⟨pf, 0, none⟩)] 75) = W := ⟨_, rfl⟩
  have hb2 : RowKit.Below w1.heap.size w1 w2 := by rw [← hw2]; exact (RowKit.Below.refl _ _).alloc (Nat.le_refl _) _
  have z2 : w2.heap.size = w1.heap.size + 1 := by rw [← hw2]; simp
  have hk2 : Blk w2 w1.heap.size #[.pointer (some ⟨pf, 0, none⟩)] 75 := by rw [← hw2]; exact Blk.new _ _ _
  have hb12 := hb1.trans (hb2.mono hb1.size)
  have z1 := hb1.size
  have hlp := hF1.blk.lt
  have hla := hF1.ma.lt
  have hlc := hF1.mc.lt
  have HF2 := Lib.hid (hF1.after hb2)
  have HB2 := Lib.hid (HB0.out.trans (hb12.mono HB0.out.size))
  have K02 := Lib.hid (K0.out.after hb12)
  have K12 := Lib.hid (K1.out.after hb12)
  have K22 := Lib.hid hk2
  have HW2 := Lib.hid hw2
  clear hw2 hb1 hb2 hb12 hF1 hk2 K0 K1 HB0 HW0
  go_wp2_with fail
  rw [HW2.out]
  with_reducible refine (ballM_ok base p bm sv V w2 (HSt.out.after HB2.out) (by omega)).mono ?_
  rintro e w3 ⟨Bs, rfl, hS, hb3⟩
  have z3 := hb3.size
  have HS := Lib.hid hS
  have HF3 := Lib.hid (HF2.out.after hb3)
  have HB3 := Lib.hid (HB2.out.trans (hb3.mono HB2.out.size))
  have K03 := Lib.hid (K02.out.after hb3)
  have K13 := Lib.hid (K12.out.after hb3)
  have K23 := Lib.hid (K22.out.after hb3)
  clear hS hb3 HF2 HB2 K02 K12 K22 HW2
  go_wp2_with fail
  refine wpIn_wide (n := 5) |>.1 ?_
  refine wpIn_range_box rfl (by omega) (gf := 56) (lb := #[.pointer (some ⟨Bs, 0, none⟩)]) rfl trivial (enters_of Try.func56 (by kernel_rfl) rfl)
    (valF_stops _ (by omega) w2.heap.size w3.heap.size Bs V (by omega) w3 HS.out (Nat.le_refl _)) Mid.trans (mid_b (Nat.le_refl _)) (RowKit.Below.refl _ _) (fun _ => rfl)
    (AsI V s pf ba bc w.heap.size w1.heap.size w2.heap.size w3.heap.size w) (AsX V s pf ba bc w.heap.size w)
    (OwnFrom.and (facts_own _ _ _ _ _ (by omega) (by omega) (by omega)) (OwnFrom.and (Own.from (blk_own _ (fun _ => _) _) _) (OwnFrom.and (Own.from (blk_own _ (fun _ => _) _) _) (OwnFrom.and (Own.from (blk_own _ (fun _ => _) _) _) (OwnFrom.and (below_own (by omega) (Nat.le_refl _)) (fun s X Y row hs hg hr => Nat.le_trans hs hg.size))))))
    (fun c => OwnFrom.and (facts_own _ _ _ _ _ (by omega) (by omega) (by omega)) (OwnFrom.and (Own.from (blk_own _ (fun _ => _) _) _) (below_own (by omega) (Nat.le_refl _))))
    ⟨⟨[], [], KnowsP.nil s, HF3.out⟩, K03.out, K13.out, K23.out, HB3.out, Nat.le_refl _⟩
    26 (fun x => encS V[x]) 6 w3.heap.size (fun pre W h => h.2.2.2.2.2) (fun pre W o h => Mid.of_below ((RowKit.Below.refl _ _).alloc (by have := h.2.2.2.2.2; omega) _))
    ?assign ?body ?done ?stop
  case assign =>
    intro l pre x W K hI hK
    have hK' := Lib.hid hK
    clear hK hI
    dsimp only [boxAct] at hK'
    generalize V[x] = z at hK' ⊢
    obtain ⟨xs, xc, xk, xd, xn, xm, xp⟩ := z
    dsimp only [encVV, encS] at hK' ⊢
    gi_wp2_with fail
    simpa [boxAct, encS] using hK'.out
  case body =>
    rintro l pre x Bx W hl' ⟨r, hr⟩ ⟨⟨A, C, hKn, hFA⟩, hk0, hk1, hk2, hB, hz⟩ hBx hX hlt
    have hmem : V[x] ∈ V := List.getElem_mem _
    obtain ⟨hfe, hxn, hxm⟩ := HFV.out _ hmem
    obtain ⟨z, hzx⟩ : ∃ z, V[x] = z := ⟨_, rfl⟩
    rw [hzx] at hfe hxn hxm hX
    have HVx := Lib.hid hzx
    have HFE := Lib.hid hfe
    have HKn := Lib.hid hKn
    clear hmem hzx hfe hKn
    obtain ⟨xs, xc, xk, xd, xn, xm, xp⟩ := z
    dsimp only [encS] at hX
    dsimp only at hxn hxm
    have x0 : W.cell? ⟨Bx, 0, none⟩ = some (.int .i64 xs) := hX.cell 0 rfl
    have x1 : W.cell? ⟨Bx, 1, none⟩ = some (.bool xc) := hX.cell 1 rfl
    have x2 : W.cell? ⟨Bx, 2, none⟩ = some (.int .i64 xk) := hX.cell 2 rfl
    have x3 : W.cell? ⟨Bx, 3, none⟩ = some (.int .i64 xd) := hX.cell 3 rfl
    have x4 : W.cell? ⟨Bx, 4, none⟩ = some (.int .i64 xn) := hX.cell 4 rfl
    have x5 : W.cell? ⟨Bx, 5, none⟩ = some (.int .i64 xm) := hX.cell 5 rfl
    have x6 : W.cell? ⟨Bx, 6, none⟩ = some (.int .i64 xp) := hX.cell 6 rfl
    have m0 : W.cell? ⟨w.heap.size, 0, none⟩ = some (.int .i64 s) := hk0.cell 0 rfl
    have m1 : W.cell? ⟨w.heap.size + 1, 0, none⟩ = some (.pointer none) := hk1.cell 0 rfl
    have f1 := hk1.free 0
    have m2 : W.cell? ⟨w1.heap.size, 0, none⟩ = some (.pointer (some ⟨pf, 0, none⟩)) := hk2.cell 0 rfl
    clear hX
    simp only [boxAct]
    by_cases hxs : s < xs
    · have e1 : decide (s < xs) = true := decide_eq_true hxs
      have HXS : Hid (s < V[x].s) := by show _ < _; rw [HVx.out]; exact hxs
      have HFin : Hid (KeepsFrom w3.heap.size W (W.setCell ⟨w.heap.size + 1, 0, none⟩ (.pointer (some ⟨pf, 0, none⟩))) ∧ AsX V s pf ba bc w.heap.size w .ret (pre ++ [x]) (W.setCell ⟨w.heap.size + 1, 0, none⟩ (.pointer (some ⟨pf, 0, none⟩)))) :=
        ⟨(KeepsOthers.setCell _ _ _).from _, ⟨A, C, ⟨rfl, pre, x, rfl, HXS.out, HKn.out⟩, hFA.kept (grown_setCell _ _ _ _) (fun e => by have := Option.some.inj e; omega) (fun e => by have := Option.some.inj e; omega) (fun e => by have := Option.some.inj e; omega)⟩, hk1.set 0 _, below_setCells hB (by omega) 0 _⟩
      clear hxs hk0 hk1 hk2 hFA
      gi_wp2_with fail
      exact HFin.out
    · have e1 : decide (s < xs) = false := decide_eq_false hxs
      have hxs : xs ≤ s := by omega
      cases xc with
      | true =>
        have hp : Calls Try.prog 45 #[.pointer (some ⟨pf, 0, none⟩), .agg #[.int .i64 xk, .int .i64 xd, .int .i64 xp]] W (ChooseEnd W pf ba bc A C ⟨xk, xd, xp⟩) := choose_ok pf ba bc A C ⟨xk, xd, xp⟩ W hFA
        have HP := Lib.hid hp
        clear hp
        gi_wp2_with fail
        refine ⟨trivial, ?_⟩
        with_reducible refine (CallsIn.inRound l (callsIn_wide.2 HP.out)).mono ?_
        rintro e w6 ⟨rfl, hg6, hF6⟩
        have hF0 := HFE.out
        unfold factE at hF0
        dsimp only at hF0
        rw [if_pos rfl] at hF0
        rw [if_pos hF0] at hF6
        have HFin : Hid (KeepsFrom w3.heap.size W w6 ∧ Mid w2.heap.size w3.heap.size W w6 ∧ AsI V s pf ba bc w.heap.size w1.heap.size w2.heap.size w3.heap.size w (pre ++ [x]) w6) := by
          refine ⟨⟨hg6.size, fun k o hB1 hk1 ho => (hg6.block k (Array.getElem?_eq_some_iff.1 hk1).1 (fun e => by have := Option.some.inj e; omega)).trans hk1⟩, ⟨fun k h1 h2 => hg6.block k (by omega) (fun e => by have := Option.some.inj e; omega), hg6.size⟩, ⟨_, _, (by rw [VM_snoc, HVx.out]; exact HKn.out.choose rfl hxs), hF6⟩, hk0.grown hg6 (fun e => by have := Option.some.inj e; omega), hk1.grown hg6 (fun e => by have := Option.some.inj e; omega), hk2.grown hg6 (fun e => by have := Option.some.inj e; omega), hB.grown hg6 hB.size (fun k e => by have := Option.some.inj e; omega), Nat.le_trans hz hg6.size⟩
        clear hg6 hF6 hF0
        gi_wp2_with fail
        exact HFin.out
      | false =>
        have hp : Calls Try.prog 46 #[.pointer (some ⟨pf, 0, none⟩), .agg #[.int .i64 xk, .int .i64 xd, .int .i64 xn, .int .i64 xm]] W (FixEnd W pf ba bc A C ⟨xk, xd, xn, xm⟩) := fix_ok pf ba bc A C ⟨xk, xd, xn, xm⟩ hxn hxm W hFA
        have HP := Lib.hid hp
        clear hp
        gi_wp2_with fail
        refine ⟨trivial, ?_⟩
        with_reducible refine (CallsIn.inRound l (callsIn_wide.2 HP.out)).mono ?_
        rintro e w6 ⟨rfl, hg6, hF6⟩
        have hF0 := HFE.out
        unfold factE at hF0
        dsimp only at hF0
        rw [if_neg (by decide)] at hF0
        rw [if_pos hF0] at hF6
        have HFin : Hid (KeepsFrom w3.heap.size W w6 ∧ Mid w2.heap.size w3.heap.size W w6 ∧ AsI V s pf ba bc w.heap.size w1.heap.size w2.heap.size w3.heap.size w (pre ++ [x]) w6) := by
          refine ⟨⟨hg6.size, fun k o hB1 hk1 ho => (hg6.block k (Array.getElem?_eq_some_iff.1 hk1).1 (fun e => by have := Option.some.inj e; omega)).trans hk1⟩, ⟨fun k h1 h2 => hg6.block k (by omega) (fun e => by have := Option.some.inj e; omega), hg6.size⟩, ⟨_, _, (by rw [VM_snoc, HVx.out]; exact HKn.out.fix rfl hxs), hF6⟩, hk0.grown hg6 (fun e => by have := Option.some.inj e; omega), hk1.grown hg6 (fun e => by have := Option.some.inj e; omega), hk2.grown hg6 (fun e => by have := Option.some.inj e; omega), hB.grown hg6 hB.size (fun k e => by have := Option.some.inj e; omega), Nat.le_trans hz hg6.size⟩
        clear hg6 hF6 hF0
        gi_wp2_with fail
        exact HFin.out
  case done =>
    rintro D ys W hD rfl ⟨⟨A, C, hKn, hFA⟩, hk0, hk1, hk2, hB, hz⟩ hK
    rw [VM_all] at hKn
    have HKn := Lib.hid hKn
    have m1 : W.cell? ⟨w.heap.size + 1, 0, none⟩ = some (.pointer none) := hk1.cell 0 rfl
    have f1 := hk1.free 0
    have m2 : W.cell? ⟨w1.heap.size, 0, none⟩ = some (.pointer (some ⟨pf, 0, none⟩)) := hk2.cell 0 rfl
    obtain ⟨W2, hW2⟩ : ∃ X, W.setCell ⟨w.heap.size + 1, 0, none⟩ (.pointer (some ⟨pf, 0, none⟩)) = X := ⟨_, rfl⟩
    have hb2 : RowKit.Below w.heap.size w W2 := by rw [← hW2]; exact below_setCells hB (by omega) 0 _
    have KF2 : Hid (Blk W2 (w.heap.size + 1) #[.pointer (some ⟨pf, 0, none⟩)] 75) := by rw [← hW2]; exact hk1.set 0 _
    have HFA2 : Hid (FactsAt W2 pf ba bc A C) := by rw [← hW2]; exact hFA.kept (grown_setCell _ _ _ _) (fun e => by have := Option.some.inj e; omega) (fun e => by have := Option.some.inj e; omega) (fun e => by have := Option.some.inj e; omega)
    have hK2 : W2.heap[D]? = some (.deferred (some [])) := by rw [← hW2]; exact (KeepsOthers.setCell _ _ _).same D _ hK rfl
    have HW2 := Lib.hid hW2
    have HB2 := Lib.hid hb2
    have HK2 := Lib.hid hK2
    clear hW2 hb2 hK2 hk0 hk1 hk2 hB hFA hKn
    go_wp2_with fail
    rw [HW2.out]
    refine ⟨by simp, .inl ⟨_, _, rfl, run_takeDeferred HK2.out, ?_⟩⟩
    have r0 := cell_kept ((KF2.out).cell 0 rfl) (grownBy_putObj' W2 D (.deferred none)) (fun r e => by cases e; exact ⟨_, HK2.out, rfl⟩)
    refine ⟨.pointer (some ⟨pf, 0, none⟩), by simp [results, Try.results32, go_sem, r0], pf, ba, bc, A, C, rfl, ?_, HKn.out, (HB2.out).trans (belowK_b (w := w) (Nat.le_refl _) _ D _ _ (by omega) HK2.out rfl rfl), by omega, by omega, by omega⟩
    exact (HFA2.out).kept (grownBy_putObj' _ D (.deferred none)) (fun e => by have := Option.some.inj e; omega) (fun e => by have := Option.some.inj e; omega) (fun e => by have := Option.some.inj e; omega)
  case stop =>
    rintro D c pre W hD hpre ⟨⟨A, C, ⟨rfl, q, x, rfl, hxs, hKn⟩, hFA⟩, hk1, hB⟩ hK
    obtain ⟨hq, e1, e2⟩ := pre_snoc hpre
    have HKn : Hid (KnowsP V s A C) := by
      show KnowsP _ _ _ _
      rw [e1, VM_take] at hKn
      have := hKn.later (U := V.drop q.length) (fun u hu => by
        subst e2
        obtain ⟨i, hi, rfl⟩ := List.mem_drop_iff_getElem.1 hu
        by_cases h0 : i = 0
        · subst h0; exact hxs
        · have := List.pairwise_iff_getElem.1 HLE.out q.length (q.length + i) hq (by omega) (by omega)
          simp only [Fin.getElem_fin] at hxs
          omega)
      rwa [List.take_append_drop] at this
    have HFA2 := Lib.hid hFA
    have KF2 := Lib.hid hk1
    have HB2 := Lib.hid hB
    clear hpre hKn hFA hk1 hB e1 e2 hxs
    gi_wp2_with fail
    refine ⟨by simp, .inl ⟨_, _, rfl, run_takeDeferred hK, ?_⟩⟩
    have r0 := cell_kept ((KF2.out).cell 0 rfl) (grownBy_putObj' W D (.deferred none)) (fun r e => by cases e; exact ⟨_, hK, rfl⟩)
    refine ⟨.pointer (some ⟨pf, 0, none⟩), by simp [results, Try.results32, go_sem, r0], pf, ba, bc, A, C, rfl, ?_, HKn.out, (HB2.out).trans (belowK_b (w := w) (Nat.le_refl _) _ D _ _ (by omega) hK rfl rfl), by omega, by omega, by omega⟩
    exact (HFA2.out).kept (grownBy_putObj' _ D (.deferred none)) (fun e => by have := Option.some.inj e; omega) (fun e => by have := Option.some.inj e; omega) (fun e => by have := Option.some.inj e; omega)

end Go.Proofs.Ytkloijkfaooodaa
