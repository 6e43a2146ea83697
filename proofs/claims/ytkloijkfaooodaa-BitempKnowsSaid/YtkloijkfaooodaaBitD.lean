/- Package bitemp: of. -/
import Derived.Test.YtkloijkfaooodaaBitC
namespace Go.Proofs.Ytkloijkfaooodaa
open Go.RowKit
set_option linter.unusedVariables false
set_option linter.unusedSimpArgs false

/-- What the map tells of a place. -/
theorem PlAt.look {w : World} {base bm : Nat} {V : List Vs} {E : List (PK × Value)} (h : PlAt w base bm V E) (q : PK) :
    ∃ v, (∀ W, MapAt OkPk W bm (E.map entP) → (Instr.lookup 81 (.map (some bm)) (pkV q) false).run Try.prog W = .ok v W) ∧ w.ownsRow base 3 1 v (idxP V q).length (natC (idxP V q)) := by
  by_cases hq : idxP V q = []
  · refine ⟨.slice none 0 0, fun W hW => ?_, ?_⟩
    · have hno : ∀ v, (pkV q, v) ∉ E.map entP := fun v hv => by
        obtain ⟨e, he, h1⟩ := List.mem_map.1 hv
        have h2 : e.1 = q := pkV_inj (congrArg Prod.fst h1)
        exact (h.own e he).1 (by rw [h2]; exact hq)
      have := hW.look_out (P := Try.prog) keyPk Try.underlying81 (z := .slice none 0 0) (fun w => by kernel_rfl) ⟨q, rfl⟩ hno false
      simpa using this
    · rw [hq]
      exact World.ownsRow_nil _ _ _ _
  · obtain ⟨v, hv⟩ := h.all q hq
    refine ⟨v, fun W hW => ?_, (h.own _ hv).2⟩
    have := hW.look_in (P := Try.prog) keyPk Try.underlying81 ⟨q, rfl⟩ (List.mem_map.2 ⟨_, hv, rfl⟩ : (pkV q, v) ∈ E.map entP) false
    simpa using this

def OfEnd (w : World) (L : List Vs) (e : Ending) (w' : World) : Prop :=
  ∃ a cap, e = .returned (.slice a L.length cap) ∧ RecsAt w' a 7 encS L ∧ Below w.heap.size w w' ∧ ∀ x, a = some x → w.heap.size ≤ x.block ∧ x.block < w'.heap.size
set_option maxHeartbeats 4000000 in
set_option maxRecDepth 100000 in
theorem of_ok (base p bm : Nat) (sv : Value) (V : List Vs) (q : PK) (w : World) (h : StAt w base p bm sv V) (hl : V.length ≤ 2513169434910) :
    Calls Try.prog 39 #[.pointer (some ⟨p, 0, none⟩), pkV q] w (OfEnd w (ofP V q)) := by
  obtain ⟨i0, hi, hi0, hi1, hi2⟩ := info_parts infoVer
  obtain ⟨a, cap, rfl, _, _, _, _, hR⟩ := owned_recs (enc := encS) (size := 7) (fun _ => rfl) h.own rfl
  obtain ⟨c, k, d⟩ := q
  obtain ⟨w0, hw0⟩ : ∃ W, w.alloc (.cells #[.bool c, .int .i64 k, .int .i64 d] 93) = W := ⟨_, rfl⟩
  have hb0 : Below w.heap.size w w0 := by rw [← hw0]; exact (Below.refl _ _).alloc (Nat.le_refl _) _
  have k0 : Blk w0 w.heap.size #[.bool c, .int .i64 k, .int .i64 d] 93 := by rw [← hw0]; exact Blk.new _ _ _
  have z0 : w0.heap.size = w.heap.size + 1 := by rw [← hw0]; simp
  have h0 := h.after hb0
  have hR0 := hR.after hb0
  obtain ⟨E, hE⟩ := h0.map
  have c0 : w0.cell? ⟨p, 0, none⟩ = some (.slice a V.length cap) := h0.blk.cell 0 rfl
  have c1 : w0.cell? ⟨p, 1, none⟩ = some (.map (some bm)) := h0.blk.cell 1 rfl
  have q0 : w0.cell? ⟨w.heap.size, 0, none⟩ = some (.bool c) := k0.cell 0 rfl
  have q1 : w0.cell? ⟨w.heap.size, 1, none⟩ = some (.int .i64 k) := k0.cell 1 rfl
  have q2 : w0.cell? ⟨w.heap.size, 2, none⟩ = some (.int .i64 d) := k0.cell 2 rfl
  obtain ⟨v, hv1, hv2⟩ := hE.look (c, k, d)
  obtain ⟨ai, ci, rfl, _, _, _, hai, hri⟩ := owned_parts hv2
  have HV1 : Hid (∀ W, Below w0.heap.size w0 W → (Instr.lookup 81 (.map (some bm)) (.agg #[.bool c, .int .i64 k, .int .i64 d]) false).run Try.prog W = .ok (.slice ai (idxP V (c, k, d)).length ci) W) := fun W hW => hv1 W (hE.map.after hW)
  have HRI := Lib.hid hri
  have HR0 := Lib.hid hR0
  have HB0 := Lib.hid hb0
  have HA := Lib.hid hai
  have hn := idxP_len V (c, k, d)
  have hn2 := ofP_len V (c, k, d)
  have HLT := Lib.hid (fun j => idxP_lt (V := V) (q := (c, k, d)) (j := j))
  have HOF := Lib.hid (idxP_of V (c, k, d))
  have HC0 := Lib.hid (fun W (hW : Below w0.heap.size w0 W) => below_cell hW c0)
  clear hv1 hv2 h hE hR hR0 h0 k0 hri hai hb0
  show Calls _ _ #[_, .agg #[.bool c, .int .i64 k, .int .i64 d]] _ _
  obtain ⟨is, his⟩ : ∃ is, idxP V (c, k, d) = is := ⟨_, rfl⟩
  obtain ⟨L, hL⟩ : ∃ L, ofP V (c, k, d) = L := ⟨_, rfl⟩
  rw [his] at HV1 HRI hn HLT HOF
  rw [hL] at hn hn2 HOF ⊢
  clear his hL
  go_enter Try.func39, Try.ntmps39
  go_wp2_with fail
  have bd : Below w0.heap.size w0 w0.drew := (Below.refl _ _).drew
  go_region_held3 (fun w' => w'.cell? ⟨p, 1, none⟩ = some (.map (some bm)) ∧ w'.cell? ⟨w.heap.size, 0, none⟩ = some (.bool c) ∧ w'.cell? ⟨w.heap.size, 1, none⟩ = some (.int .i64 k) ∧ w'.cell? ⟨w.heap.size, 2, none⟩ = some (.int .i64 d) ∧ (Instr.lookup 81 (.map (some bm)) (.agg #[.bool c, .int .i64 k, .int .i64 d]) false).run Try.prog w' = .ok (.slice ai is.length ci) w')
    (first | exact ⟨below_cell bd c1, below_cell bd q0, below_cell bd q1, below_cell bd q2, HV1.out _ bd⟩)
    (fail)
  obtain ⟨w1, hw1⟩ : ∃ W, w0.drew = W := ⟨_, rfl⟩
  rw [hw1] at bd ⊢
  have HB1 := Lib.hid (HB0.out.trans (bd.mono HB0.out.size))
  have HR1 := Lib.hid (RowsAt.after HR0.out bd)
  have HRI1 := Lib.hid (HRI.out.after bd)
  have HC1 := Lib.hid (fun W (hW : Below w1.heap.size w1 W) => HC0.out W (bd.trans (hW.mono bd.size)))
  have z1 : w0.heap.size ≤ w1.heap.size := bd.size
  have hcap : is.length ≤ 2513169434910 := by omega
  clear hw1 bd c0 c1 q0 q1 q2 HV1
  go_wp2_with fail
  go_loopw [5, 18] (fun v i wr => ∃ j : Nat, j ≤ is.length ∧ i = .int .i64 j ∧ Hid (wr.ownsRow w1.heap.size 26 7 v (L.take j).length (cellsL encS (L.take j))) ∧ Hid (Below w1.heap.size w1 wr)) (fun _ i _ => is.length - (intOf i).toNat)
  case atStart => exact ⟨0, by omega, rfl, World.ownsRow_nil _ _ _ _, Below.refl _ _⟩
  case round =>
    obtain ⟨j, hj, rfl, HO, HB⟩ := hrel
    have zr := HB.out.size
    by_cases hlt : j < is.length
    · obtain ⟨bi, oi, rfl, hci⟩ := (HRI1.out.after HB.out) (by omega)
      have hij : is[j]? = some is[j] := List.getElem?_eq_getElem hlt
      have hin : is[j] ∈ is := List.getElem_mem hlt
      obtain ⟨y, hy⟩ : ∃ y, is[j] = y := ⟨_, rfl⟩
      rw [hy] at hij hin
      have hyV := HLT.out y hin
      have ci0 : wr.cell? ⟨bi, oi + j, none⟩ = some (.int .i64 (y : Int)) := by
        have := hci j (by omega)
        rw [this]
        unfold natC
        dsimp only
        rw [List.getD_eq_getElem?_getD, List.getElem?_map, hij]
        rfl
      have hV := List.getElem?_eq_getElem hyV
      obtain ⟨x, hx⟩ : ∃ x, V[y] = x := ⟨_, rfl⟩
      rw [hx] at hV
      have HT : Hid (L.take (j + 1) = L.take j ++ [x]) := by
        show _ = _
        have h1 : L[j]? = some x := by
          rw [← HOF.out, List.getElem?_map, hij]
          simp [List.getD_eq_getElem?_getD, hV]
        obtain ⟨h2, h3⟩ := List.getElem?_eq_some_iff.1 h1
        rw [List.take_succ_eq_append_getElem h2, h3]
      have hlj : (L.take j).length = j := by rw [List.length_take]; omega
      have HLJ := Lib.hid hlj
      have hRr : RecsAt wr a 7 encS V := RowsAt.after HR1.out HB.out
      obtain ⟨b, o, rfl, _⟩ := hRr (by omega)
      obtain ⟨xs, xc, xk, xd, xn, xm, xp⟩ := x
      have c0 : wr.cell? ⟨p, 0, none⟩ = some (.slice (some ⟨b, o, none⟩) V.length cap) := HC1.out _ HB.out
      have x0 : wr.cell? ⟨b, o + y * 7, none⟩ = some (.int .i64 xs) := RecsAt.cell hRr rfl hyV hV (j := 0) rfl
      have x1 : wr.cell? ⟨b, o + y * 7 + 1, none⟩ = some (.bool xc) := RecsAt.cell hRr rfl hyV hV (j := 1) rfl
      have x2 : wr.cell? ⟨b, o + y * 7 + 2, none⟩ = some (.int .i64 xk) := RecsAt.cell hRr rfl hyV hV (j := 2) rfl
      have x3 : wr.cell? ⟨b, o + y * 7 + 3, none⟩ = some (.int .i64 xd) := RecsAt.cell hRr rfl hyV hV (j := 3) rfl
      have x4 : wr.cell? ⟨b, o + y * 7 + 4, none⟩ = some (.int .i64 xn) := RecsAt.cell hRr rfl hyV hV (j := 4) rfl
      have x5 : wr.cell? ⟨b, o + y * 7 + 5, none⟩ = some (.int .i64 xm) := RecsAt.cell hRr rfl hyV hV (j := 5) rfl
      have x6 : wr.cell? ⟨b, o + y * 7 + 6, none⟩ = some (.int .i64 xp) := RecsAt.cell hRr rfl hyV hV (j := 6) rfl
      have i1 : (y : Int) < (V.length : Int) := by omega
      clear hij hin hci hV hRr hy hx hlj
      go_wp2_with (at_builtin; refine wpList_append_own _ rfl (.tmp 22) (.tmp 30) 35 rfl w1.heap.size 26 i0 _ 7 56 Try.underlying35 hi hi0 hi1 hi2 rfl (by decide) _ (L.take j).length _ rfl (HO.out.alloc _) ⟨wr.heap.size, 0, none⟩ 1 1 [.int .i64 xs, .bool xc, .int .i64 xk, .int .i64 xd, .int .i64 xn, .int .i64 xm, .int .i64 xp] rfl rfl (World.news_of_block (cs := #[.int .i64 xs, .bool xc, .int .i64 xk, .int .i64 xd, .int .i64 xn, .int .i64 xm, .int .i64 xp]) (t := 26) (fr := (0, 0)) (heap_alloc_new wr _)) (by simp [Value.oneCell']) (by rw [HLJ.out]; unfold maxLen; omega) (by rw [HLJ.out]; omega) (by simp; omega) ?_; intro v' w3 hown' hgrow _)
      have HO3 : Hid (w3.ownsRow w1.heap.size 26 7 v' (L.take (j + 1)).length (cellsL encS (L.take (j + 1)))) := by
        show World.ownsRow _ _ _ _ _ _ _
        rw [HT.out, List.length_append, cellsL_snoc]
        exact hown'
      have HB3 : Hid (Below w1.heap.size w1 w3) := (HB.out.alloc zr _).grown hgrow (by simp; omega) (fun k e => (own_cells HO.out e).1)
      clear hown' hgrow
      go_roundw
      case rel => exact ⟨j + 1, by omega, by go_num, HO3, HB3⟩
      case measure => simp [intOf]; omega
    · obtain rfl : j = is.length := by omega
      have h := HO.out
      rw [List.take_of_length_le (by omega)] at h
      obtain ⟨ar, cr, rfl, _, _, _, hx, hr⟩ := owned_recs (enc := encS) (size := 7) (fun _ => rfl) h rfl
      clear h
      go_wp2_with fail
      go_ret
      exact ⟨ar, cr, rfl, hr, HB1.out.trans (HB.out.mono (by have := HB1.out.size; omega)), fun x e => by have := hx x e; have := HB1.out.size; omega⟩
theorem of_nil (q : PK) (w : World) : Calls Try.prog 39 #[.pointer none, pkV q] w (OfEnd w []) := by
  obtain ⟨c, k, d⟩ := q
  show Calls _ _ #[_, .agg #[.bool c, .int .i64 k, .int .i64 d]] _ _
  go_enter Try.func39, Try.ntmps39
  go_wp2_with fail
  go_ret
  exact ⟨none, 0, rfl, RowsAt.nil _ _ _ _, (Below.refl _ _).alloc (Nat.le_refl _) _, by simp⟩

end Go.Proofs.Ytkloijkfaooodaa
