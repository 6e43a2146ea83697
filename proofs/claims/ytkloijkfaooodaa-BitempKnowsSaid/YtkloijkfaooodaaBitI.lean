/- Package bitemp: Fix, Choose. -/
import Derived.Test.YtkloijkfaooodaaBitG
import Derived.Test.YtkloijkfaooodaaFacDa
namespace Go.Proofs.Ytkloijkfaooodaa
open Go.RowKit Go.Shelf
set_option linter.unusedVariables false
set_option linter.unusedSimpArgs false

def callV3 (V : List Vs) (v : Vs) : Value := .tuple #[.agg (encS ((callO V v).getD default)).toArray, .bool (callO V v).isSome, .int .i64 (callE V v)]
def CallEnd (w : World) (base p bm : Nat) (sv : Value) (V : List Vs) (v : Vs) (e : Ending) (w' : World) : Prop :=
  ∃ sv2, e = .returned (callV3 V v) ∧ StAt w' base p bm sv2 (callV V v) ∧ Turn (StAt.bs p bm sv) w w' ∧ ∀ g, sv2.ownBlock = some g → sv.ownBlock = some g ∨ w.heap.size ≤ g
theorem call_err {base p bm : Nat} {sv : Value} {V : List Vs} {v : Vs} {w w' : World} {E : Int} (hE : factE v = E) (hn : E ≠ 0) (h : StAt w base p bm sv V) (hb : Below w.heap.size w w') :
    CallEnd w base p bm sv V v (.returned (.tuple #[.agg #[.int .i64 0, .bool false, .int .i64 0, .int .i64 0, .int .i64 0, .int .i64 0, .int .i64 0], .bool false, .int .i64 E])) w' := by
  have h3 : factE v ≠ 0 := by rw [hE]; exact hn
  refine ⟨sv, ?_, ?_, Turn.of_below hb, fun g hg => Or.inl hg⟩
  · unfold callV3 callO callE
    rw [if_neg h3, if_neg h3, hE]
    rfl
  · unfold callV
    rw [if_neg h3]
    exact h.after hb
theorem call_put {base p bm : Nat} {sv sv2 : Value} {V : List Vs} {v : Vs} {w w' : World} (hE : factE v = 0) {o : Vs} {is : Bool} {E : Int} (ho : (oldV V v.norm).getD default = o) (hi : (oldV V v.norm).isSome = is) (he : putE V v.norm = E)
    (h : StAt w' base p bm sv2 (putV V v.norm)) (ht : Turn (StAt.bs p bm sv) w w') (hg : ∀ g, sv2.ownBlock = some g → sv.ownBlock = some g ∨ w.heap.size ≤ g) :
    CallEnd w base p bm sv V v (.returned (.tuple #[.agg (encS o).toArray, .bool is, .int .i64 E])) w' := by
  refine ⟨sv2, ?_, ?_, ht, hg⟩
  · unfold callV3 callO callE
    rw [if_pos hE, if_pos hE, ho, hi, he]
  · unfold callV
    rw [if_pos hE]
    exact h
theorem StAt.bs_lt {w : World} {base p bm : Nat} {sv : Value} {V : List Vs} (h : StAt w base p bm sv V) : ∀ b ∈ StAt.bs p bm sv, b < w.heap.size := fun b hb => by
  unfold StAt.bs at hb
  rcases List.mem_cons.1 hb with rfl | hb
  · exact h.lt.1
  · rcases List.mem_cons.1 hb with rfl | hb
    · exact h.lt.2
    · exact (own_cells h.own (Option.mem_toList.1 hb)).2.1
set_option maxHeartbeats 8000000 in
set_option maxRecDepth 100000 in
theorem bfix_ok (base p bm : Nat) (sv : Value) (V : List Vs) (s k d n m : Int) (hn : I64 n) (hm : I64 m) (w : World) (hbase : base ≤ w.heap.size) (h : StAt w base p bm sv V) (hl : V.length ≤ 2513169434900) :
    Calls Try.prog 36 #[.pointer (some ⟨p, 0, none⟩), .int .i64 s, .agg #[.int .i64 k, .int .i64 d, .int .i64 n, .int .i64 m]] w (CallEnd w base p bm sv V ⟨s, false, k, d, n, m, 0⟩) := by
  have H := Lib.hid h
  obtain ⟨w0, hw0⟩ : ∃ w0, (w.alloc (.cells #[.int .i64 k, .int .i64 d, .int .i64 n, .int .i64 m] 86)).alloc (.cells #[.int .i64 0, .bool false, .int .i64 0, .int .i64 0, .int .i64 0, .int .i64 0, .int .i64 0] 26) = w0 := ⟨_, rfl⟩
  have hb0 : Below w.heap.size w w0 := by rw [← hw0]; exact ((Below.refl _ _).alloc (Nat.le_refl _) _).alloc (by simp) _
  have z0 : w0.heap.size = w.heap.size + 2 := by rw [← hw0]; simp
  have KX : Blk w0 w.heap.size #[.int .i64 k, .int .i64 d, .int .i64 n, .int .i64 m] 86 := by rw [← hw0]; exact (Blk.new _ _ _).alloc _
  have KR : Hid (Blk w0 (w.heap.size + 1) #[.int .i64 0, .bool false, .int .i64 0, .int .i64 0, .int .i64 0, .int .i64 0, .int .i64 0] 26) := by
    rw [← hw0]
    have := Blk.new (w.alloc (.cells #[.int .i64 k, .int .i64 d, .int .i64 n, .int .i64 m] 86)) #[.int .i64 0, .bool false, .int .i64 0, .int .i64 0, .int .i64 0, .int .i64 0, .int .i64 0] 26
    rw [World.size_alloc] at this
    exact this
  have HB0 := Lib.hid hb0
  have Z0 := Lib.hid z0
  have HW0 := Lib.hid hw0
  obtain ⟨E, hE⟩ : ∃ E, wrongX ⟨k, d, n, m⟩ = E := ⟨_, rfl⟩
  have HE := Lib.hid hE
  have zlt : p < w.heap.size := h.lt.1
  have zlm : bm < w.heap.size := h.lt.2
  have HS : Hid (∀ W, Below w0.heap.size w0 W → (W.cell? ⟨w.heap.size, 0, none⟩ = some (.int .i64 k) ∧ W.cell? ⟨w.heap.size, 1, none⟩ = some (.int .i64 d) ∧ W.cell? ⟨w.heap.size, 2, none⟩ = some (.int .i64 n) ∧ W.cell? ⟨w.heap.size, 3, none⟩ = some (.int .i64 m))) := fun W hW => ⟨below_cell hW (KX.cell 0 rfl), below_cell hW (KX.cell 1 rfl), below_cell hW (KX.cell 2 rfl), below_cell hW (KX.cell 3 rfl)⟩
  have KX := Lib.hid KX
  clear hw0 hb0 z0 h hE
  go_enter Try.func36, Try.ntmps36
  go_wp2_with fail
  rw [HW0.out]
  have bd : Below w0.heap.size w0 w0.drew := (Below.refl _ _).drew
  go_region_held3 (fun W => (W.cell? ⟨w.heap.size, 0, none⟩ = some (.int .i64 k) ∧ W.cell? ⟨w.heap.size, 1, none⟩ = some (.int .i64 d) ∧ W.cell? ⟨w.heap.size, 2, none⟩ = some (.int .i64 n) ∧ W.cell? ⟨w.heap.size, 3, none⟩ = some (.int .i64 m)))
    (first | with_reducible exact HS.out _ bd | with_reducible exact HS.out _ (bd.trans (hbn.mono bd.size)) | with_reducible exact HS.out _ ((bd.trans (hbn.mono bd.size)).grown hgf (bd.trans (hbn.mono bd.size)).size (fun q e => by cases e; have := bd.size; omega)))
    (first
      | ((go_at_call 44; (with_reducible refine (new_ok _).mono ?_); rintro e wn ⟨q, ba, bc, rfl, hF, hbn, zq, zba, zbc⟩))
      | ((go_at_call 46; (refine (fix_ok q ba bc [] [] ⟨k, d, n, m⟩ hn hm wn hF).mono ?_); rintro e wf ⟨rfl, hgf, _⟩)))
  have bf : Below w0.heap.size w0 wf := (bd.trans (hbn.mono bd.size)).grown hgf (bd.trans (hbn.mono bd.size)).size (fun q e => by cases e; have := bd.size; omega)
  have HBF := Lib.hid (HB0.out.trans (bf.mono HB0.out.size))
  have HF := Lib.hid (H.out.after HBF.out)
  have KRF := Lib.hid (KR.out.after bf)
  have HSF := HS.out _ bf
  have zf := bf.size
  have z0 := Z0.out
  rw [HE.out]
  clear bf hgf hF hbn zq zba zbc bd HS KX KR HB0 Z0 HW0
  by_cases h0 : E = 0
  · subst h0
    obtain ⟨x0, x1, x2, x3⟩ := HSF
    go_wp2_with fail
    have hp : ∀ W, StAt W base p bm sv V → Calls Try.prog 55 #[.pointer (some ⟨p, 0, none⟩), .agg #[.int .i64 s, .bool false, .int .i64 k, .int .i64 d, .int .i64 n, .int .i64 m, .int .i64 0]] W (PutEnd W base p bm sv V ⟨s, false, k, d, n, m, 0⟩) := fun W hW => put_ok base p bm sv V ⟨s, false, k, d, n, m, 0⟩ W (by have := hW.hp; have := hW.lt.1; omega) hW hl
    with_reducible refine (hp _ HF.out).mono ?_
    rintro e w1 ⟨sv2, rfl, hst, ht, hown⟩
    have HTW := Lib.hid (Turn.then_below (Turn.refl (StAt.bs p bm sv) w) HBF.out |>.trans ht)
    have K1 := Lib.hid (ht.blk KRF.out (fun hb => by have := H.out.bs_lt _ hb; omega))
    have HST := Lib.hid hst
    have HOW := Lib.hid hown
    have z1 := ht.size
    unfold putV3
    obtain ⟨⟨os, oc, ok, od, on, om, op⟩, ho⟩ : ∃ o, (oldV V ⟨s, false, k, d, n, m, 0⟩).getD default = o := ⟨_, rfl⟩
    obtain ⟨is, his⟩ : ∃ is, (oldV V ⟨s, false, k, d, n, m, 0⟩).isSome = is := ⟨_, rfl⟩
    obtain ⟨F, hF⟩ : ∃ F, putE V ⟨s, false, k, d, n, m, 0⟩ = F := ⟨_, rfl⟩
    rw [ho, his, hF]
    have HO := Lib.hid ho
    have HI := Lib.hid his
    have HF := Lib.hid hF
    dsimp only [encS]
    have b0 : w1.cell? ⟨(w.heap.size + 1), 0, none⟩ = some (.int .i64 0) := (K1.out).cell 0 rfl
    have b1 : w1.cell? ⟨(w.heap.size + 1), 1, none⟩ = some (.bool false) := (K1.out).cell 1 rfl
    have b2 : w1.cell? ⟨(w.heap.size + 1), 2, none⟩ = some (.int .i64 0) := (K1.out).cell 2 rfl
    have b3 : w1.cell? ⟨(w.heap.size + 1), 3, none⟩ = some (.int .i64 0) := (K1.out).cell 3 rfl
    have b4 : w1.cell? ⟨(w.heap.size + 1), 4, none⟩ = some (.int .i64 0) := (K1.out).cell 4 rfl
    have b5 : w1.cell? ⟨(w.heap.size + 1), 5, none⟩ = some (.int .i64 0) := (K1.out).cell 5 rfl
    have b6 : w1.cell? ⟨(w.heap.size + 1), 6, none⟩ = some (.int .i64 0) := (K1.out).cell 6 rfl
    have f0 := (K1.out).free 0
    have f1 := (K1.out).free 1
    have f2 := (K1.out).free 2
    have f3 := (K1.out).free 3
    have f4 := (K1.out).free 4
    have f5 := (K1.out).free 5
    have f6 := (K1.out).free 6
    clear hst ht hown ho his hF hp
    go_wp2_with fail
    clear b0 b1 b2 b3 b4 b5 b6 f0 f1 f2 f3 f4 f5 f6
    obtain ⟨w2, hw2⟩ : ∃ W, put7 w1 (w.heap.size + 1) ⟨os, oc, ok, od, on, om, op⟩ = W := ⟨_, rfl⟩
    have hK : Blk w2 (w.heap.size + 1) #[.int .i64 os, .bool oc, .int .i64 ok, .int .i64 od, .int .i64 on, .int .i64 om, .int .i64 op] 26 := by rw [← hw2]; exact set7 K1.out _ _ _ _ _ _ _
    have ht : Turn [w.heap.size + 1] w1 w2 := by rw [← hw2]; exact put7_turn _ _ _
    have hb : Below w.heap.size w1 w2 := ht.below (by omega) (by simp)
    simp only [put7] at hw2
    rw [hw2]
    clear hw2
    have e0 : w2.cell? ⟨w.heap.size + 1, 0, none⟩ = some (.int .i64 os) := (hK).cell 0 rfl
    have e1 : w2.cell? ⟨w.heap.size + 1, 1, none⟩ = some (.bool oc) := (hK).cell 1 rfl
    have e2 : w2.cell? ⟨w.heap.size + 1, 2, none⟩ = some (.int .i64 ok) := (hK).cell 2 rfl
    have e3 : w2.cell? ⟨w.heap.size + 1, 3, none⟩ = some (.int .i64 od) := (hK).cell 3 rfl
    have e4 : w2.cell? ⟨w.heap.size + 1, 4, none⟩ = some (.int .i64 on) := (hK).cell 4 rfl
    have e5 : w2.cell? ⟨w.heap.size + 1, 5, none⟩ = some (.int .i64 om) := (hK).cell 5 rfl
    have e6 : w2.cell? ⟨w.heap.size + 1, 6, none⟩ = some (.int .i64 op) := (hK).cell 6 rfl
    refine bodyPost_ret (v := .tuple #[.agg #[.int .i64 os, .bool oc, .int .i64 ok, .int .i64 od, .int .i64 on, .int .i64 om, .int .i64 op], .bool is, .int .i64 F]) (by simp [results, Try.results36, go_sem, e0, e1, e2, e3, e4, e5, e6]) rfl ?_
    refine call_put (v := ⟨s, false, k, d, n, m, 0⟩) HE.out HO.out HI.out HF.out (HST.out.turn ht (by simp; omega) (by simp; omega) (fun x e hx => ?_) (fun b hb cur hc => ?_)) (HTW.out.then_below hb) (fun x e => (HOW.out x e).imp id (by omega))
    · obtain rfl := List.mem_singleton.1 hx
      rcases HOW.out _ e with h | h
      · have := H.out.bs_lt _ (show w.heap.size + 1 ∈ StAt.bs p bm sv by unfold StAt.bs; rw [h]; simp)
        omega
      · omega
    · obtain rfl := List.mem_singleton.1 hb
      have h2 : w1.heap[w.heap.size + 1]? = _ := K1.out
      rw [h2] at hc
      simp at hc
  · have h0' : decide (E = 0) = false := decide_eq_false h0
    have h0'' : (E == 0) = false := by simpa using h0
    have h0''' : (E != 0) = true := by simpa using h0
    have HN := Lib.hid h0
    clear h0 HSF
    have b0 : wf.cell? ⟨(w.heap.size + 1), 0, none⟩ = some (.int .i64 0) := (KRF.out).cell 0 rfl
    have b1 : wf.cell? ⟨(w.heap.size + 1), 1, none⟩ = some (.bool false) := (KRF.out).cell 1 rfl
    have b2 : wf.cell? ⟨(w.heap.size + 1), 2, none⟩ = some (.int .i64 0) := (KRF.out).cell 2 rfl
    have b3 : wf.cell? ⟨(w.heap.size + 1), 3, none⟩ = some (.int .i64 0) := (KRF.out).cell 3 rfl
    have b4 : wf.cell? ⟨(w.heap.size + 1), 4, none⟩ = some (.int .i64 0) := (KRF.out).cell 4 rfl
    have b5 : wf.cell? ⟨(w.heap.size + 1), 5, none⟩ = some (.int .i64 0) := (KRF.out).cell 5 rfl
    have b6 : wf.cell? ⟨(w.heap.size + 1), 6, none⟩ = some (.int .i64 0) := (KRF.out).cell 6 rfl
    have f0 := (KRF.out).free 0
    have f1 := (KRF.out).free 1
    have f2 := (KRF.out).free 2
    have f3 := (KRF.out).free 3
    have f4 := (KRF.out).free 4
    have f5 := (KRF.out).free 5
    have f6 := (KRF.out).free 6
    go_wp2_with fail
    clear b0 b1 b2 b3 b4 b5 b6 f0 f1 f2 f3 f4 f5 f6 h0' h0'' h0'''
    obtain ⟨w2, hw2⟩ : ∃ W, put7 wf (w.heap.size + 1) ⟨0, false, 0, 0, 0, 0, 0⟩ = W := ⟨_, rfl⟩
    have hK : Blk w2 (w.heap.size + 1) #[.int .i64 0, .bool false, .int .i64 0, .int .i64 0, .int .i64 0, .int .i64 0, .int .i64 0] 26 := by rw [← hw2]; exact set7 KRF.out _ _ _ _ _ _ _
    have hb : Below w.heap.size w w2 := by rw [← hw2]; exact put7_below HBF.out (by omega) _
    simp only [put7] at hw2
    rw [hw2]
    clear hw2
    have b0 : w2.cell? ⟨(w.heap.size + 1), 0, none⟩ = some (.int .i64 0) := (hK).cell 0 rfl
    have b1 : w2.cell? ⟨(w.heap.size + 1), 1, none⟩ = some (.bool false) := (hK).cell 1 rfl
    have b2 : w2.cell? ⟨(w.heap.size + 1), 2, none⟩ = some (.int .i64 0) := (hK).cell 2 rfl
    have b3 : w2.cell? ⟨(w.heap.size + 1), 3, none⟩ = some (.int .i64 0) := (hK).cell 3 rfl
    have b4 : w2.cell? ⟨(w.heap.size + 1), 4, none⟩ = some (.int .i64 0) := (hK).cell 4 rfl
    have b5 : w2.cell? ⟨(w.heap.size + 1), 5, none⟩ = some (.int .i64 0) := (hK).cell 5 rfl
    have b6 : w2.cell? ⟨(w.heap.size + 1), 6, none⟩ = some (.int .i64 0) := (hK).cell 6 rfl
    have f0 := (hK).free 0
    have f1 := (hK).free 1
    have f2 := (hK).free 2
    have f3 := (hK).free 3
    have f4 := (hK).free 4
    have f5 := (hK).free 5
    have f6 := (hK).free 6
    refine bodyPost_ret (v := .tuple #[.agg #[.int .i64 0, .bool false, .int .i64 0, .int .i64 0, .int .i64 0, .int .i64 0, .int .i64 0], .bool false, .int .i64 E]) (by simp [results, Try.results36, go_sem, b0, b1, b2, b3, b4, b5, b6]) rfl ?_
    exact call_err (v := ⟨s, false, k, d, n, m, 0⟩) HE.out HN.out H.out hb
set_option maxHeartbeats 8000000 in
set_option maxRecDepth 100000 in
theorem bchoose_ok (base p bm : Nat) (sv : Value) (V : List Vs) (s k d q0 : Int) (hq : True) (w : World) (hbase : base ≤ w.heap.size) (h : StAt w base p bm sv V) (hl : V.length ≤ 2513169434900) :
    Calls Try.prog 37 #[.pointer (some ⟨p, 0, none⟩), .int .i64 s, .agg #[.int .i64 k, .int .i64 d, .int .i64 q0]] w (CallEnd w base p bm sv V ⟨s, true, k, d, 0, 0, q0⟩) := by
  have H := Lib.hid h
  obtain ⟨w0, hw0⟩ : ∃ w0, (w.alloc (.cells #[.int .i64 k, .int .i64 d, .int .i64 q0] 89)).alloc (.cells #[.int .i64 0, .bool false, .int .i64 0, .int .i64 0, .int .i64 0, .int .i64 0, .int .i64 0] 26) = w0 := ⟨_, rfl⟩
  have hb0 : Below w.heap.size w w0 := by rw [← hw0]; exact ((Below.refl _ _).alloc (Nat.le_refl _) _).alloc (by simp) _
  have z0 : w0.heap.size = w.heap.size + 2 := by rw [← hw0]; simp
  have KX : Blk w0 w.heap.size #[.int .i64 k, .int .i64 d, .int .i64 q0] 89 := by rw [← hw0]; exact (Blk.new _ _ _).alloc _
  have KR : Hid (Blk w0 (w.heap.size + 1) #[.int .i64 0, .bool false, .int .i64 0, .int .i64 0, .int .i64 0, .int .i64 0, .int .i64 0] 26) := by
    rw [← hw0]
    have := Blk.new (w.alloc (.cells #[.int .i64 k, .int .i64 d, .int .i64 q0] 89)) #[.int .i64 0, .bool false, .int .i64 0, .int .i64 0, .int .i64 0, .int .i64 0, .int .i64 0] 26
    rw [World.size_alloc] at this
    exact this
  have HB0 := Lib.hid hb0
  have Z0 := Lib.hid z0
  have HW0 := Lib.hid hw0
  obtain ⟨E, hE⟩ : ∃ E, wrongH ⟨k, d, q0⟩ = E := ⟨_, rfl⟩
  have HE := Lib.hid hE
  have zlt : p < w.heap.size := h.lt.1
  have zlm : bm < w.heap.size := h.lt.2
  have HS : Hid (∀ W, Below w0.heap.size w0 W → (W.cell? ⟨w.heap.size, 0, none⟩ = some (.int .i64 k) ∧ W.cell? ⟨w.heap.size, 1, none⟩ = some (.int .i64 d) ∧ W.cell? ⟨w.heap.size, 2, none⟩ = some (.int .i64 q0))) := fun W hW => ⟨below_cell hW (KX.cell 0 rfl), below_cell hW (KX.cell 1 rfl), below_cell hW (KX.cell 2 rfl)⟩
  have KX := Lib.hid KX
  clear hw0 hb0 z0 h hE
  go_enter Try.func37, Try.ntmps37
  go_wp2_with fail
  rw [HW0.out]
  have bd : Below w0.heap.size w0 w0.drew := (Below.refl _ _).drew
  go_region_held3 (fun W => (W.cell? ⟨w.heap.size, 0, none⟩ = some (.int .i64 k) ∧ W.cell? ⟨w.heap.size, 1, none⟩ = some (.int .i64 d) ∧ W.cell? ⟨w.heap.size, 2, none⟩ = some (.int .i64 q0)))
    (first | with_reducible exact HS.out _ bd | with_reducible exact HS.out _ (bd.trans (hbn.mono bd.size)) | with_reducible exact HS.out _ ((bd.trans (hbn.mono bd.size)).grown hgf (bd.trans (hbn.mono bd.size)).size (fun q e => by cases e; have := bd.size; omega)))
    (first
      | ((go_at_call 44; (with_reducible refine (new_ok _).mono ?_); rintro e wn ⟨q, ba, bc, rfl, hF, hbn, zq, zba, zbc⟩))
      | ((go_at_call 45; (refine (choose_ok q ba bc [] [] ⟨k, d, q0⟩ wn hF).mono ?_); rintro e wf ⟨rfl, hgf, _⟩)))
  have bf : Below w0.heap.size w0 wf := (bd.trans (hbn.mono bd.size)).grown hgf (bd.trans (hbn.mono bd.size)).size (fun q e => by cases e; have := bd.size; omega)
  have HBF := Lib.hid (HB0.out.trans (bf.mono HB0.out.size))
  have HF := Lib.hid (H.out.after HBF.out)
  have KRF := Lib.hid (KR.out.after bf)
  have HSF := HS.out _ bf
  have zf := bf.size
  have z0 := Z0.out
  rw [HE.out]
  clear bf hgf hF hbn zq zba zbc bd HS KX KR HB0 Z0 HW0
  by_cases h0 : E = 0
  · subst h0
    obtain ⟨x0, x1, x2⟩ := HSF
    go_wp2_with fail
    have hp : ∀ W, StAt W base p bm sv V → Calls Try.prog 55 #[.pointer (some ⟨p, 0, none⟩), .agg #[.int .i64 s, .bool true, .int .i64 k, .int .i64 d, .int .i64 0, .int .i64 0, .int .i64 q0]] W (PutEnd W base p bm sv V ⟨s, true, k, d, 0, 0, q0⟩) := fun W hW => put_ok base p bm sv V ⟨s, true, k, d, 0, 0, q0⟩ W (by have := hW.hp; have := hW.lt.1; omega) hW hl
    with_reducible refine (hp _ HF.out).mono ?_
    rintro e w1 ⟨sv2, rfl, hst, ht, hown⟩
    have HTW := Lib.hid (Turn.then_below (Turn.refl (StAt.bs p bm sv) w) HBF.out |>.trans ht)
    have K1 := Lib.hid (ht.blk KRF.out (fun hb => by have := H.out.bs_lt _ hb; omega))
    have HST := Lib.hid hst
    have HOW := Lib.hid hown
    have z1 := ht.size
    unfold putV3
    obtain ⟨⟨os, oc, ok, od, on, om, op⟩, ho⟩ : ∃ o, (oldV V ⟨s, true, k, d, 0, 0, q0⟩).getD default = o := ⟨_, rfl⟩
    obtain ⟨is, his⟩ : ∃ is, (oldV V ⟨s, true, k, d, 0, 0, q0⟩).isSome = is := ⟨_, rfl⟩
    obtain ⟨F, hF⟩ : ∃ F, putE V ⟨s, true, k, d, 0, 0, q0⟩ = F := ⟨_, rfl⟩
    rw [ho, his, hF]
    have HO := Lib.hid ho
    have HI := Lib.hid his
    have HF := Lib.hid hF
    dsimp only [encS]
    have b0 : w1.cell? ⟨(w.heap.size + 1), 0, none⟩ = some (.int .i64 0) := (K1.out).cell 0 rfl
    have b1 : w1.cell? ⟨(w.heap.size + 1), 1, none⟩ = some (.bool false) := (K1.out).cell 1 rfl
    have b2 : w1.cell? ⟨(w.heap.size + 1), 2, none⟩ = some (.int .i64 0) := (K1.out).cell 2 rfl
    have b3 : w1.cell? ⟨(w.heap.size + 1), 3, none⟩ = some (.int .i64 0) := (K1.out).cell 3 rfl
    have b4 : w1.cell? ⟨(w.heap.size + 1), 4, none⟩ = some (.int .i64 0) := (K1.out).cell 4 rfl
    have b5 : w1.cell? ⟨(w.heap.size + 1), 5, none⟩ = some (.int .i64 0) := (K1.out).cell 5 rfl
    have b6 : w1.cell? ⟨(w.heap.size + 1), 6, none⟩ = some (.int .i64 0) := (K1.out).cell 6 rfl
    have f0 := (K1.out).free 0
    have f1 := (K1.out).free 1
    have f2 := (K1.out).free 2
    have f3 := (K1.out).free 3
    have f4 := (K1.out).free 4
    have f5 := (K1.out).free 5
    have f6 := (K1.out).free 6
    clear hst ht hown ho his hF hp
    go_wp2_with fail
    clear b0 b1 b2 b3 b4 b5 b6 f0 f1 f2 f3 f4 f5 f6
    obtain ⟨w2, hw2⟩ : ∃ W, put7 w1 (w.heap.size + 1) ⟨os, oc, ok, od, on, om, op⟩ = W := ⟨_, rfl⟩
    have hK : Blk w2 (w.heap.size + 1) #[.int .i64 os, .bool oc, .int .i64 ok, .int .i64 od, .int .i64 on, .int .i64 om, .int .i64 op] 26 := by rw [← hw2]; exact set7 K1.out _ _ _ _ _ _ _
    have ht : Turn [w.heap.size + 1] w1 w2 := by rw [← hw2]; exact put7_turn _ _ _
    have hb : Below w.heap.size w1 w2 := ht.below (by omega) (by simp)
    simp only [put7] at hw2
    rw [hw2]
    clear hw2
    have e0 : w2.cell? ⟨w.heap.size + 1, 0, none⟩ = some (.int .i64 os) := (hK).cell 0 rfl
    have e1 : w2.cell? ⟨w.heap.size + 1, 1, none⟩ = some (.bool oc) := (hK).cell 1 rfl
    have e2 : w2.cell? ⟨w.heap.size + 1, 2, none⟩ = some (.int .i64 ok) := (hK).cell 2 rfl
    have e3 : w2.cell? ⟨w.heap.size + 1, 3, none⟩ = some (.int .i64 od) := (hK).cell 3 rfl
    have e4 : w2.cell? ⟨w.heap.size + 1, 4, none⟩ = some (.int .i64 on) := (hK).cell 4 rfl
    have e5 : w2.cell? ⟨w.heap.size + 1, 5, none⟩ = some (.int .i64 om) := (hK).cell 5 rfl
    have e6 : w2.cell? ⟨w.heap.size + 1, 6, none⟩ = some (.int .i64 op) := (hK).cell 6 rfl
    refine bodyPost_ret (v := .tuple #[.agg #[.int .i64 os, .bool oc, .int .i64 ok, .int .i64 od, .int .i64 on, .int .i64 om, .int .i64 op], .bool is, .int .i64 F]) (by simp [results, Try.results37, go_sem, e0, e1, e2, e3, e4, e5, e6]) rfl ?_
    refine call_put (v := ⟨s, true, k, d, 0, 0, q0⟩) HE.out HO.out HI.out HF.out (HST.out.turn ht (by simp; omega) (by simp; omega) (fun x e hx => ?_) (fun b hb cur hc => ?_)) (HTW.out.then_below hb) (fun x e => (HOW.out x e).imp id (by omega))
    · obtain rfl := List.mem_singleton.1 hx
      rcases HOW.out _ e with h | h
      · have := H.out.bs_lt _ (show w.heap.size + 1 ∈ StAt.bs p bm sv by unfold StAt.bs; rw [h]; simp)
        omega
      · omega
    · obtain rfl := List.mem_singleton.1 hb
      have h2 : w1.heap[w.heap.size + 1]? = _ := K1.out
      rw [h2] at hc
      simp at hc
  · have h0' : decide (E = 0) = false := decide_eq_false h0
    have h0'' : (E == 0) = false := by simpa using h0
    have h0''' : (E != 0) = true := by simpa using h0
    have HN := Lib.hid h0
    clear h0 HSF
    have b0 : wf.cell? ⟨(w.heap.size + 1), 0, none⟩ = some (.int .i64 0) := (KRF.out).cell 0 rfl
    have b1 : wf.cell? ⟨(w.heap.size + 1), 1, none⟩ = some (.bool false) := (KRF.out).cell 1 rfl
    have b2 : wf.cell? ⟨(w.heap.size + 1), 2, none⟩ = some (.int .i64 0) := (KRF.out).cell 2 rfl
    have b3 : wf.cell? ⟨(w.heap.size + 1), 3, none⟩ = some (.int .i64 0) := (KRF.out).cell 3 rfl
    have b4 : wf.cell? ⟨(w.heap.size + 1), 4, none⟩ = some (.int .i64 0) := (KRF.out).cell 4 rfl
    have b5 : wf.cell? ⟨(w.heap.size + 1), 5, none⟩ = some (.int .i64 0) := (KRF.out).cell 5 rfl
    have b6 : wf.cell? ⟨(w.heap.size + 1), 6, none⟩ = some (.int .i64 0) := (KRF.out).cell 6 rfl
    have f0 := (KRF.out).free 0
    have f1 := (KRF.out).free 1
    have f2 := (KRF.out).free 2
    have f3 := (KRF.out).free 3
    have f4 := (KRF.out).free 4
    have f5 := (KRF.out).free 5
    have f6 := (KRF.out).free 6
    go_wp2_with fail
    clear b0 b1 b2 b3 b4 b5 b6 f0 f1 f2 f3 f4 f5 f6 h0' h0'' h0'''
    obtain ⟨w2, hw2⟩ : ∃ W, put7 wf (w.heap.size + 1) ⟨0, false, 0, 0, 0, 0, 0⟩ = W := ⟨_, rfl⟩
    have hK : Blk w2 (w.heap.size + 1) #[.int .i64 0, .bool false, .int .i64 0, .int .i64 0, .int .i64 0, .int .i64 0, .int .i64 0] 26 := by rw [← hw2]; exact set7 KRF.out _ _ _ _ _ _ _
    have hb : Below w.heap.size w w2 := by rw [← hw2]; exact put7_below HBF.out (by omega) _
    simp only [put7] at hw2
    rw [hw2]
    clear hw2
    have b0 : w2.cell? ⟨(w.heap.size + 1), 0, none⟩ = some (.int .i64 0) := (hK).cell 0 rfl
    have b1 : w2.cell? ⟨(w.heap.size + 1), 1, none⟩ = some (.bool false) := (hK).cell 1 rfl
    have b2 : w2.cell? ⟨(w.heap.size + 1), 2, none⟩ = some (.int .i64 0) := (hK).cell 2 rfl
    have b3 : w2.cell? ⟨(w.heap.size + 1), 3, none⟩ = some (.int .i64 0) := (hK).cell 3 rfl
    have b4 : w2.cell? ⟨(w.heap.size + 1), 4, none⟩ = some (.int .i64 0) := (hK).cell 4 rfl
    have b5 : w2.cell? ⟨(w.heap.size + 1), 5, none⟩ = some (.int .i64 0) := (hK).cell 5 rfl
    have b6 : w2.cell? ⟨(w.heap.size + 1), 6, none⟩ = some (.int .i64 0) := (hK).cell 6 rfl
    have f0 := (hK).free 0
    have f1 := (hK).free 1
    have f2 := (hK).free 2
    have f3 := (hK).free 3
    have f4 := (hK).free 4
    have f5 := (hK).free 5
    have f6 := (hK).free 6
    refine bodyPost_ret (v := .tuple #[.agg #[.int .i64 0, .bool false, .int .i64 0, .int .i64 0, .int .i64 0, .int .i64 0, .int .i64 0], .bool false, .int .i64 E]) (by simp [results, Try.results37, go_sem, b0, b1, b2, b3, b4, b5, b6]) rfl ?_
    exact call_err (v := ⟨s, true, k, d, 0, 0, q0⟩) HE.out HN.out H.out hb

end Go.Proofs.Ytkloijkfaooodaa
