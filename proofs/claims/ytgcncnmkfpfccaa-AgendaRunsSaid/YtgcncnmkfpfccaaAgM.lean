/- Package agenda: find, Drop, Move. -/
import Derived.Test.YtgcncnmkfpfccaaAgL
namespace Go.Proofs.Ytgcncnmkfpfccaa
open Go.RowKit Go.Sort Go.Shelf
set_option linter.unusedVariables false
set_option linter.unusedSimpArgs false

def FindEnd (w : World) (L : List It) (no : Int) (e : Ending) (w' : World) : Prop :=
  w' = w ∧ ((∃ (i : Nat) (x : It), L[i]? = some x ∧ x.n = no ∧ e = .returned (.tuple #[.int .i64 i, .int .i64 0])) ∨ ((∀ x ∈ L, x.n ≠ no) ∧ e = .returned (.tuple #[.int .i64 0, .int .i64 16])))
set_option maxHeartbeats 1000000 in
theorem find_ok (base B bm : Nat) (sv : Value) (L : List It) (N no : Int) (hno : (Lit.int .i64 no).wf = true) (w : World) (h : PAt w base B bm sv L N) :
    Calls Try.prog 29 #[.pointer (some ⟨B, 0, none⟩), .int .i64 no] w (FindEnd w L no) := by
  have c1 : w.cell? ⟨B, 1, none⟩ = some (.map (some bm)) := h.blk.cell 1 rfl
  have HM := Lib.hid h.map
  have hz : ∀ w, (zeroValue 3).run Try.prog w = .ok (.int .i64 0) w := fun w => by kernel_rfl
  clear h
  by_cases hin : ∃ (i : Nat) (x : It), L[i]? = some x ∧ x.n = no
  · obtain ⟨i, x, hx, rfl⟩ := hin
    have HX := Lib.hid hx
    clear hx
    go_enter Try.func29, Try.ntmps29
    go_wp2_with (at_lookup; refine wpList_look_in _ rfl _ _ 61 true rfl keyN Try.underlying61 rfl HM.out (.int .i64 x.n) (.int .i64 (i : Int)) rfl ⟨_, rfl, hno⟩ (plcs_mem.2 ⟨i, x, HX.out, rfl⟩) ?_)
    go_ret2
    exact ⟨rfl, Or.inl ⟨i, x, HX.out, rfl, rfl⟩⟩
  · have HNo : Hid (∀ x ∈ L, x.n ≠ no) := fun x hx e => by
      obtain ⟨i, hi, e2⟩ := List.getElem_of_mem hx
      exact hin ⟨i, x, by rw [List.getElem?_eq_getElem hi, e2], e⟩
    clear hin
    go_enter Try.func29, Try.ntmps29
    go_wp2_with (at_lookup; refine wpList_look_out _ rfl _ _ 61 true rfl keyN Try.underlying61 hz rfl HM.out (.int .i64 no) rfl ⟨_, rfl, hno⟩ (fun v hv => by obtain ⟨i, x, hx, e⟩ := plcs_mem.1 hv; simp only [Prod.mk.injEq, Value.int.injEq, true_and] at e; exact HNo.out x (List.mem_of_getElem? hx) e.1.symm) ?_)
    go_ret2
    exact ⟨rfl, Or.inr ⟨HNo.out, rfl⟩⟩

/-- The item of a number; those without it. -/
def getO (S : List It) (no : Int) : Option It := S.find? fun x => decide (x.n = no)
def dropS (S : List It) (no : Int) : List It := S.filter fun x => decide (x.n ≠ no)
theorem getO_some {S : List It} {no : Int} {x : It} (h : getO S no = some x) : x ∈ S ∧ x.n = no := ⟨List.mem_of_find?_eq_some h, by simpa using List.find?_some h⟩
theorem getO_none {S : List It} {no : Int} : getO S no = none ↔ ∀ x ∈ S, x.n ≠ no := by unfold getO; rw [List.find?_eq_none]; simp
theorem nos_mem {S : List It} (hn : Nos S) {x y : It} (hx : x ∈ S) (hy : y ∈ S) (e : x.n = y.n) : x = y := by
  obtain ⟨i, hi, e1⟩ := List.getElem_of_mem hx
  obtain ⟨k, hk, e2⟩ := List.getElem_of_mem hy
  have a := List.getElem?_eq_getElem hi
  have b := List.getElem?_eq_getElem hk
  rw [e1] at a
  rw [e2] at b
  have := hn.one a b e
  subst this
  rw [a] at b
  exact Option.some.inj b
theorem drop_perm {S : List It} (hn : Nos S) {x : It} (hx : x ∈ S) : S.Perm (x :: dropS S x.n) := by
  have n1 : S.Nodup := List.Pairwise.imp (fun {a b} hab e => hab (by rw [e])) (List.pairwise_map.1 (List.nodup_iff_pairwise_ne.1 hn))
  refine (List.perm_ext_iff_of_nodup n1 ?_).2 fun z => ?_
  · rw [List.nodup_cons]
    exact ⟨by simp [dropS], n1.sublist List.filter_sublist⟩
  · unfold dropS
    rw [List.mem_cons, List.mem_filter]
    constructor
    · intro hz
      by_cases e : z.n = x.n
      · exact Or.inl (nos_mem hn hz hx e)
      · exact Or.inr ⟨hz, by simpa using e⟩
    · rintro (rfl | h)
      · exact hx
      · exact h.1
theorem drop_rising {S : List It} (h : Rising It.ky S) (no : Int) : Rising It.ky (dropS S no) := List.Pairwise.sublist List.filter_sublist h

def itE (o : Option It) (e : Int) : Value := .tuple #[.agg (encI (o.getD default)).toArray, .int .i64 e]
def DropEnd (w : World) (base B bm : Nat) (sv : Value) (S : List It) (N no : Int) (e : Ending) (w' : World) : Prop :=
  e = .returned (itE (getO S no) (if (getO S no).isSome then 0 else 16)) ∧ AgEnd w base B bm sv (dropS S no) N w'
theorem drop_none {S : List It} {no : Int} (h : ∀ x ∈ S, x.n ≠ no) : dropS S no = S := List.filter_eq_self.2 fun x hx => by simpa using h x hx
set_option maxHeartbeats 4000000 in
set_option maxRecDepth 100000 in
theorem drop_ok (base B bm : Nat) (sv : Value) (S : List It) (N no : Int) (hno : (Lit.int .i64 no).wf = true) (hl : S.length ≤ 90000) (w : World) (h : AgAt w base B bm sv S N) :
    Calls Try.prog 25 #[.pointer (some ⟨B, 0, none⟩), .int .i64 no] w (DropEnd w base B bm sv S N no) := by
  have H := Lib.hid h
  obtain ⟨w0, hw0⟩ : ∃ W, w.alloc (.cells #[.int .i64 0, .int .i64 0, .int .i64 0] 31) = W := ⟨_, rfl⟩
  have hb0 : Below w.heap.size w w0 := by rw [← hw0]; exact (Below.refl _ _).alloc (Nat.le_refl _) _
  have KR : Hid (Blk w0 w.heap.size #[.int .i64 0, .int .i64 0, .int .i64 0] 31) := by rw [← hw0]; exact Blk.new _ _ _
  have H0 := Lib.hid (h.after hb0)
  have HW0 := Lib.hid hw0
  have HB0 := Lib.hid hb0
  have HBs := Lib.hid h.bs_lt
  obtain ⟨L, hP, hG, hp⟩ := H0.out.ex
  have HP := Lib.hid hP
  have HG := Lib.hid hG
  have HLp := Lib.hid hp
  have hll : L.length ≤ 90000 := by rw [hp.length_eq]; exact hl
  clear hw0 hb0 h hP hG hp
  go_enter Try.func25, Try.ntmps25
  go_wp2_with fail
  rw [HW0.out]
  with_reducible refine (find_ok base B bm sv L N no hno w0 HP.out).mono ?_
  rintro e w1 ⟨hw, ⟨i, x, hx, hxn, rfl⟩ | ⟨hno2, rfl⟩⟩
  · obtain rfl : w0 = w1 := hw.symm
    have hxS := HLp.out.mem_iff.1 (List.mem_of_getElem? hx)
    have HGo : Hid (getO S no = some x) := by
      show _ = _
      cases hg : getO S no with
      | none => exact absurd hxn (getO_none.1 hg x hxS)
      | some y =>
        obtain ⟨h1, h2⟩ := getO_some hg
        rw [nos_mem H.out.nos h1 hxS (h2.trans hxn.symm)]
    have HX := Lib.hid hx
    have HXS := Lib.hid hxS
    have HXN := Lib.hid hxn
    clear hx hxS hxn
    go_wp2_with fail
    with_reducible refine (hremove_ok base B bm sv L N i x HX.out (by omega) w0 HP.out HG.out).mono ?_
    rintro e w3 hE
    have hdp := drop_perm H.out.nos HXS.out
    rw [HXN.out] at hdp
    have HE := Lib.hid (ag_pop H0.out HLp.out hdp (drop_rising H.out.ra no) (Turn.of_below (Below.refl _ _)) hE)
    obtain ⟨sv', L', rfl, _⟩ := hE
    obtain ⟨xd, xn, xt⟩ := x
    have k3 := HE.out.turn.blk KR.out (fun hb => by have := (HBs.out _ hb).2; omega)
    have hta := fun w => assertIt xd xn xt w
    dsimp only [encI]
    have r0 : w3.cell? ⟨w.heap.size, 0, none⟩ = some (.int .i64 0) := k3.cell 0 rfl
    have r1 : w3.cell? ⟨w.heap.size, 1, none⟩ = some (.int .i64 0) := k3.cell 1 rfl
    have r2 : w3.cell? ⟨w.heap.size, 2, none⟩ = some (.int .i64 0) := k3.cell 2 rfl
    have f0 := k3.free 0
    have f1 := k3.free 1
    have f2 := k3.free 2
    obtain ⟨w4, hw4⟩ : ∃ W, ((w3.setCell ⟨w.heap.size, 0, none⟩ (.int .i64 xd)).setCell ⟨w.heap.size, 1, none⟩ (.int .i64 xn)).setCell ⟨w.heap.size, 2, none⟩ (.int .i64 xt) = W := ⟨_, rfl⟩
    have ht4 : Turn [w.heap.size] w3 w4 := by rw [← hw4]; exact ((Turn.of_grown (grown_setCell _ _ _ _) (by simp)).trans (Turn.of_grown (grown_setCell _ _ _ _) (by simp))).trans (Turn.of_grown (grown_setCell _ _ _ _) (by simp))
    have k4 : Blk w4 w.heap.size #[.int .i64 xd, .int .i64 xn, .int .i64 xt] 31 := by rw [← hw4]; exact ((k3.set 0 _).set 1 _).set 2 _
    have HFin : Hid (DropEnd w base B bm sv S N no (.returned (.tuple #[.agg #[.int .i64 xd, .int .i64 xn, .int .i64 xt], .int .i64 0])) w4) :=
      ⟨(by rw [HGo.out]; rfl), AgEnd.wrap HB0.out (HE.out) (Nat.le_refl _) KR.out.lt HBs.out ht4⟩
    have HW4 := Lib.hid hw4
    (skip)
    clear k3 ht4 hw4
    go_wp2_with fail
    rw [HW4.out]
    have r0 := k4.cell 0 (v := .int .i64 xd) rfl
    have r1 := k4.cell 1 (v := .int .i64 xn) rfl
    have r2 := k4.cell 2 (v := .int .i64 xt) rfl
    refine bodyPost_ret (v := .tuple #[.agg #[.int .i64 xd, .int .i64 xn, .int .i64 xt], .int .i64 0]) (by simp [results, Try.results25, go_sem, r0, r1, r2]) rfl ?_
    exact HFin.out
  · obtain rfl : w0 = w1 := hw.symm
    have hnS : ∀ x ∈ S, x.n ≠ no := fun x hx => hno2 x (HLp.out.mem_iff.2 hx)
    have hGo := getO_none.2 hnS
    have hDr := drop_none hnS
    have k3 := KR.out
    have r0 : w0.cell? ⟨w.heap.size, 0, none⟩ = some (.int .i64 0) := k3.cell 0 rfl
    have r1 : w0.cell? ⟨w.heap.size, 1, none⟩ = some (.int .i64 0) := k3.cell 1 rfl
    have r2 : w0.cell? ⟨w.heap.size, 2, none⟩ = some (.int .i64 0) := k3.cell 2 rfl
    have f0 := k3.free 0
    have f1 := k3.free 1
    have f2 := k3.free 2
    clear hno2
    obtain ⟨w4, hw4⟩ : ∃ W, ((w0.setCell ⟨w.heap.size, 0, none⟩ (.int .i64 0)).setCell ⟨w.heap.size, 1, none⟩ (.int .i64 0)).setCell ⟨w.heap.size, 2, none⟩ (.int .i64 0) = W := ⟨_, rfl⟩
    have ht4 : Turn [w.heap.size] w0 w4 := by rw [← hw4]; exact ((Turn.of_grown (grown_setCell _ _ _ _) (by simp)).trans (Turn.of_grown (grown_setCell _ _ _ _) (by simp))).trans (Turn.of_grown (grown_setCell _ _ _ _) (by simp))
    have k4 : Blk w4 w.heap.size #[.int .i64 0, .int .i64 0, .int .i64 0] 31 := by rw [← hw4]; exact ((k3.set 0 _).set 1 _).set 2 _
    have HFin : Hid (DropEnd w base B bm sv S N no (.returned (.tuple #[.agg #[.int .i64 0, .int .i64 0, .int .i64 0], .int .i64 16])) w4) :=
      ⟨(by rw [hGo]; rfl), AgEnd.wrap HB0.out ((by rw [hDr]; exact AgEnd.same H0.out (Below.refl _ _))) (Nat.le_refl _) KR.out.lt HBs.out ht4⟩
    have HW4 := Lib.hid hw4
    clear hnS hGo hDr
    clear k3 ht4 hw4
    go_wp2_with fail
    rw [HW4.out]
    have r0 := k4.cell 0 (v := .int .i64 0) rfl
    have r1 := k4.cell 1 (v := .int .i64 0) rfl
    have r2 := k4.cell 2 (v := .int .i64 0) rfl
    refine bodyPost_ret (v := .tuple #[.agg #[.int .i64 0, .int .i64 0, .int .i64 0], .int .i64 16]) (by simp [results, Try.results25, go_sem, r0, r1, r2]) rfl ?_
    exact HFin.out

end Go.Proofs.Ytgcncnmkfpfccaa
