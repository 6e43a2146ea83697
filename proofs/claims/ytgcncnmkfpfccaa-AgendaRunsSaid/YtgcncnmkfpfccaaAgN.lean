/- Package agenda: Move. -/
import Derived.Test.YtgcncnmkfpfccaaAgM
namespace Go.Proofs.Ytgcncnmkfpfccaa
open Go.RowKit Go.Sort Go.Shelf
set_option linter.unusedVariables false
set_option linter.unusedSimpArgs false

/-- What a move answers, and what is there then. -/
def moveE (S : List It) (no d : Int) : Int := if (getO S no).isSome then (if dayB d = true then 0 else 18) else 16
def moveS (S : List It) (no d : Int) : List It := match getO S no with
  | none => S
  | some x => if dayB d = true then putK It.ky (dropS S no) ⟨d, x.n, x.t⟩ else S
def MoveEnd (w : World) (base B bm : Nat) (sv : Value) (S : List It) (N no d : Int) (e : Ending) (w' : World) : Prop :=
  e = .returned (.int .i64 (moveE S no d)) ∧ AgEnd w base B bm sv (moveS S no d) N w'
theorem drop_no {S : List It} {no : Int} {z : It} (h : z ∈ dropS S no) : z.n ≠ no := by unfold dropS at h; simpa using (List.mem_filter.1 h).2
theorem plcs_setd (L : List It) (i : Nat) (x : It) (d : Int) (hx : L[i]? = some x) : plcs (L.set i ⟨d, x.n, x.t⟩) = plcs L := by
  unfold plcs
  rw [List.length_set]
  refine List.map_congr_left fun j hj => ?_
  have : ((L.set i ⟨d, x.n, x.t⟩).getD j default).n = (L.getD j default).n := by
    rw [List.getD_eq_getElem?_getD, List.getD_eq_getElem?_getD, List.getElem?_set]
    by_cases h : i = j
    · subst h
      rw [if_pos rfl, if_pos (List.getElem?_eq_some_iff.1 hx).1, hx]
      rfl
    · rw [if_neg h]
  rw [this]
theorem own_setd {w : World} {base g cap : Nat} {e : TypeId} {L : List It} (h : w.ownsRow base e 3 (.slice (some ⟨g, 0, none⟩) L.length cap) L.length (cellsL encI L)) {i : Nat} {x : It} (hx : L[i]? = some x) (d : Int) :
    (w.setCell ⟨g, i * 3, none⟩ (.int .i64 d)).ownsRow base e 3 (.slice (some ⟨g, 0, none⟩) L.length cap) L.length (cellsL encI (L.set i ⟨d, x.n, x.t⟩)) := by
  have hi := (List.getElem?_eq_some_iff.1 hx).1
  have h1 := own_set1 h (i * 3) (by omega) (.int .i64 d)
  have e1 : cellsL encI (L.set i ⟨d, x.n, x.t⟩) = (cellsL encI L).set (i * 3) (.int .i64 d) := by
    have e2 : cellsL encI (L.set i x) = cellsL encI L := by
      congr 1
      obtain ⟨hl, he⟩ := List.getElem?_eq_some_iff.1 hx
      rw [← he]
      exact List.set_getElem_self hl
    have e3 := cellsL_set L i ⟨d, x.n, x.t⟩ hi
    have e4 := cellsL_set L i x hi
    rw [e2] at e4
    rw [e3]
    dsimp only
    have hlen := cellsL_len (enc := encI) (size := 3) (fun _ => rfl) L
    have hq : (cellsL encI L)[i * 3 + 1]? = some (.int .i64 x.n) ∧ (cellsL encI L)[i * 3 + 2]? = some (.int .i64 x.t) := by
      constructor
      · rw [e4, List.getElem?_set_ne (by omega), List.getElem?_set_self (by rw [List.length_set, hlen]; omega)]
      · rw [e4, List.getElem?_set_self (by rw [List.length_set, List.length_set, hlen]; omega)]
    refine List.ext_getElem? fun j => ?_
    rw [List.getElem?_set, List.getElem?_set]
    by_cases h2 : i * 3 + 2 = j
    · subst h2
      rw [if_pos rfl, if_pos (by rw [List.length_set, List.length_set, hlen]; omega), List.getElem?_set_ne (by omega), hq.2]
    · rw [if_neg h2]
      by_cases h3 : i * 3 + 1 = j
      · subst h3
        rw [if_pos rfl, if_pos (by rw [List.length_set, hlen]; omega), List.getElem?_set_ne (by omega), hq.1]
      · rw [if_neg h3]
  rw [e1]
  exact h1
theorem ag_fix {w w1 w2 : World} {base B bm i : Nat} {sv : Value} {S L : List It} {N d : Int} {x : It} {e : Ending} (h : AgAt w base B bm sv S N) (hp : L.Perm S) (hx : L[i]? = some x) (h1 : Turn (PAt.bs B bm sv) w w1) (hE : HFixEnd w1 base B bm sv (L.set i ⟨d, x.n, x.t⟩) N e w2) : AgEnd w base B bm sv (putK It.ky (dropS S x.n) ⟨d, x.n, x.t⟩) N w2 := by
  obtain ⟨L', _, hA, ht, hp', hG⟩ := hE
  have hxS := hp.mem_iff.1 (List.mem_of_getElem? hx)
  have hd := drop_perm h.nos hxS
  have hr := drop_rising h.ra x.n
  obtain ⟨r, r1, r2⟩ := set_perm_of L i x ⟨d, x.n, x.t⟩ hx
  have hrd : r.Perm (dropS S x.n) := (List.perm_cons x).1 ((r1.symm.trans hp).trans hd)
  have hpk : (putK It.ky (dropS S x.n) ⟨d, x.n, x.t⟩).Perm (⟨d, x.n, x.t⟩ :: dropS S x.n) := putK_new hr fun z hz e => drop_no hz (by simp [It.ky] at e; exact e.2)
  refine ⟨⟨sv, ⟨⟨L', hA, hG, (hp'.trans (r2.trans (hrd.cons _))).trans hpk.symm⟩, putK_rising hr, fun z hz => ?_, h.n0⟩, fun g hg => Or.inl hg⟩, h1.trans ht⟩
  rcases List.mem_cons.1 (hpk.mem_iff.1 hz) with rfl | hz
  · exact h.no x hxS
  · exact h.no z (hd.mem_iff.2 (List.mem_cons_of_mem _ hz))
set_option maxHeartbeats 4000000 in
set_option maxRecDepth 100000 in
theorem move_ok (base B bm : Nat) (sv : Value) (S : List It) (N no d : Int) (hno : (Lit.int .i64 no).wf = true) (hl : S.length ≤ 90000) (w : World) (h : AgAt w base B bm sv S N) :
    Calls Try.prog 21 #[.pointer (some ⟨B, 0, none⟩), .int .i64 no, .int .i64 d] w (MoveEnd w base B bm sv S N no d) := by
  have H := Lib.hid h
  obtain ⟨L, hP, hG, hp⟩ := h.ex
  have HP := Lib.hid hP
  have HG := Lib.hid hG
  have HLp := Lib.hid hp
  have hll : L.length ≤ 90000 := by rw [hp.length_eq]; exact hl
  clear h hP hG hp
  go_enter Try.func21, Try.ntmps21
  go_wp2_with fail
  with_reducible refine (find_ok base B bm sv L N no hno w HP.out).mono ?_
  rintro e w1 ⟨hw, ⟨i, x, hx, hxn, rfl⟩ | ⟨hno2, rfl⟩⟩
  · obtain rfl : w = w1 := hw.symm
    have hxS := HLp.out.mem_iff.1 (List.mem_of_getElem? hx)
    have hGo : getO S no = some x := by
      cases hg : getO S no with
      | none => exact absurd hxn (getO_none.1 hg x hxS)
      | some y =>
        obtain ⟨h1, h2⟩ := getO_some hg
        rw [nos_mem H.out.nos h1 hxS (h2.trans hxn.symm)]
    have HGo := Lib.hid hGo
    have HX := Lib.hid hx
    have HXN := Lib.hid hxn
    have hil := (List.getElem?_eq_some_iff.1 hx).1
    clear hx hxS hxn hGo
    go_wp2_with fail
    with_reducible refine (right_ok d w).mono ?_
    rintro e w1 ⟨rfl, hw⟩
    obtain rfl : w = w1 := hw.symm
    cases hd : dayB d with
    | false =>
      have HFin : Hid (MoveEnd w base B bm sv S N no d (.returned (.int .i64 18)) w) := ⟨by unfold moveE; rw [HGo.out, hd]; rfl, by unfold moveS; rw [HGo.out]; dsimp only; rw [hd, if_neg (by decide)]; exact AgEnd.same H.out (Below.refl _ _)⟩
      go_wp2_with fail
      go_ret
      exact HFin.out
    | true =>
      obtain ⟨g, cap, hsv, hbg, hgl, hcap, hmax, hc⟩ := row_parts HP.out.own rfl (by omega)
      subst hsv
      obtain ⟨⟨a0, a1, a2⟩, f0, f1, f2⟩ := hc i x HX.out
      have c0 : w.cell? ⟨B, 0, none⟩ = some (.slice (some ⟨g, 0, none⟩) L.length cap) := HP.out.blk.cell 0 rfl
      have i1 : (0 : Int) ≤ (i : Int) := by omega
      have i2 : (i : Int) < (L.length : Int) := by omega
      obtain ⟨w2, hw2⟩ : ∃ W, w.setCell ⟨g, i * 3, none⟩ (.int .i64 d) = W := ⟨_, rfl⟩
      have hg2 : w.grownBy w2 (some g) := by rw [← hw2]; exact grown_setCell _ _ _ _
      have hne := HP.out.ne.2 g rfl
      have hl1 : (L.set i ⟨d, x.n, x.t⟩).length = L.length := List.length_set
      have hP2 : PAt w2 base B bm (.slice (some ⟨g, 0, none⟩) L.length cap) (L.set i ⟨d, x.n, x.t⟩) N := by
        refine ⟨HP.out.blk.grown hg2 (by simpa using hne.1), ?_, ?_, HP.out.hB, HP.out.hm⟩
        · rw [hl1, ← hw2]
          exact own_setd HP.out.own HX.out d
        · rw [plcs_setd L i x d HX.out]
          exact HP.out.map.kept hg2 (by simpa using hne.2)
      have hD : DnG (gK (L.set i ⟨d, x.n, x.t⟩)) (L.set i ⟨d, x.n, x.t⟩).length i False := by
        rw [hl1]
        exact HG.out.change (Nat.le_refl _) (fun j hj hji => gK_congr (by rw [List.getElem?_set_ne (Ne.symm hji)]))
      have HP2 := Lib.hid hP2
      have HD := Lib.hid hD
      have HT2 : Hid (Turn (PAt.bs B bm (.slice (some ⟨g, 0, none⟩) L.length cap)) w w2) := Turn.of_grown hg2 (by simp [PAt.bs, Value.ownBlock])
      have HW2 := Lib.hid hw2
      clear hw2 hg2 hP2 hD hc
      go_wp2_with fail
      rw [HW2.out]
      with_reducible refine (hfix_ok base B bm (.slice (some ⟨g, 0, none⟩) L.length cap) (L.set i ⟨d, x.n, x.t⟩) N i (by rw [hl1]; exact hil) (by rw [hl1]; omega) w2 HP2.out HD.out).mono ?_
      rintro e w3 hE
      have HE := Lib.hid (ag_fix H.out HLp.out HX.out HT2.out hE)
      obtain ⟨L', rfl, _⟩ := hE
      have HFin : Hid (MoveEnd w base B bm (.slice (some ⟨g, 0, none⟩) L.length cap) S N no d (.returned (.int .i64 0)) w3) := by
        refine ⟨by unfold moveE; rw [HGo.out, hd]; rfl, ?_⟩
        unfold moveS
        rw [HGo.out]
        dsimp only
        rw [hd, if_pos rfl]
        have := HE.out
        rw [HXN.out] at this
        rw [HXN.out]
        exact this
      go_wp2_with fail
      go_ret
      exact HFin.out
  · obtain rfl : w = w1 := hw.symm
    have hGo := getO_none.2 (fun x hx => hno2 x (HLp.out.mem_iff.2 hx) : ∀ x ∈ S, x.n ≠ no)
    have HFin : Hid (MoveEnd w base B bm sv S N no d (.returned (.int .i64 16)) w) := ⟨by unfold moveE; rw [hGo]; rfl, by unfold moveS; rw [hGo]; exact AgEnd.same H.out (Below.refl _ _)⟩
    clear hno2 hGo
    go_wp2_with fail
    go_ret
    exact HFin.out

end Go.Proofs.Ytgcncnmkfpfccaa
