/- Package ledger: sum, Balance, InPeriod, Total. -/
import Derived.Test.YtmjgcenhgpkhiaaDoorMgF
namespace Go.Proofs.YtmjgcenhgpkhiaaDoor
open Go.RowKit Go.Sort Go.Shelf
set_option linter.unusedVariables false
set_option linter.unusedSimpArgs false

def lnsQ (q : Six → Bool) (party : Int) (s : Six) (ls : List Ln) : List Int := (ls.filter fun l => decide (l.p = party) && q s).map Ln.a
def sumQ (q : Six → Bool) (party : Int) (L : List EnP) : List Int := (L.map fun e => lnsQ q party e.s e.ls).flatten
theorem lnsQ_snoc (q : Six → Bool) (party : Int) (s : Six) (ls : List Ln) (l : Ln) : lnsQ q party s (ls ++ [l]) = lnsQ q party s ls ++ if (decide (l.p = party) && q s) = true then [l.a] else [] := by
  unfold lnsQ
  rw [List.filter_append, List.map_append]
  congr 1
  by_cases h : (decide (l.p = party) && q s) = true <;> simp [List.filter_cons, h]
theorem sumQ_snoc (q : Six → Bool) (party : Int) (L : List EnP) (x : EnP) : sumQ q party (L ++ [x]) = sumQ q party L ++ lnsQ q party x.s x.ls := by simp [sumQ]
theorem lnsQ_len (q : Six → Bool) (party : Int) (s : Six) (ls : List Ln) : (lnsQ q party s ls).length ≤ ls.length := by
  unfold lnsQ
  rw [List.length_map]
  exact List.length_filter_le _ _
theorem sumQ_len (q : Six → Bool) (party : Int) : ∀ (L : List EnP), (∀ e ∈ L, e.ls.length ≤ 100) → (sumQ q party L).length ≤ 100 * L.length
  | [], _ => by simp [sumQ]
  | x :: L, h => by
    have ih := sumQ_len q party L fun e he => h e (by simp [he])
    have h1 := lnsQ_len q party x.s x.ls
    have h2 := h x (by simp)
    unfold sumQ at ih ⊢
    simp only [List.map_cons, List.flatten_cons, List.length_append, List.length_cons]
    omega
theorem sumQ_wf (q : Six → Bool) (party : Int) (L : List EnP) (h : ∀ e ∈ L, AllWf e.ls) : ∀ x ∈ sumQ q party L, -9223372036854775808 ≤ x ∧ x ≤ 9223372036854775807 := fun x hx => by
  unfold sumQ at hx
  obtain ⟨l, hl, hx⟩ := List.mem_flatten.1 hx
  obtain ⟨e, he, rfl⟩ := List.mem_map.1 hl
  unfold lnsQ at hx
  obtain ⟨z, hz, rfl⟩ := List.mem_map.1 hx
  exact (h e he z (List.mem_filter.1 hz).1).2.2
theorem infoInt2 : (Tryd.prog.info? 3).map (fun i => (i.zero, i.size, i.bytes)) = some (some (.int .i64 0), 1, 8) := by kernel_rfl
def SumEnd (w : World) (z : Int) (e : Ending) (w' : World) : Prop := e = .returned (sumA z) ∧ Below w.heap.size w w'
set_option maxHeartbeats 8000000 in
set_option maxRecDepth 100000 in
theorem sumT_ok (B1 p bm : Nat) (a : Option Addr) (cap : Nat) (E : List En) (party : Int) (q : Six → Bool) (w : World) (h : LgAt w p bm a cap E) (hl : E.length ≤ 1000) (hf : ∀ e ∈ E, e.ls.length ≤ 100)
    (hq : ∀ W s a n c, Below w.heap.size w W → Calls Tryd.prog 50 #[entV s a n c, .pointer (some ⟨B1, 0, none⟩)] W fun e w' => e = .returned (.bool (q s)) ∧ Below W.heap.size W w') :
    Calls Tryd.prog 49 #[.pointer (some ⟨p, 0, none⟩), .int .i64 party, .func (.func 50) #[] #[.pointer (some ⟨B1, 0, none⟩)]] w (SumEnd w (sumQ q party (E.map En.p)).sum) := by
  obtain ⟨i0, hi, hz0, hz1, hz2⟩ := info_parts infoInt2
  have c0 : w.cell? ⟨p, 0, none⟩ = some (.slice a E.length cap) := h.blk.cell 0 rfl
  have HL := Lib.hid h
  have HQ := Lib.hid hq
  have HLen := Lib.hid (sumQ_len q party (E.map En.p) (fun e he => by obtain ⟨x, hx, rfl⟩ := List.mem_map.1 he; exact hf x hx))
  have HWf := Lib.hid (sumQ_wf q party (E.map En.p) (fun e he => by obtain ⟨x, hx, rfl⟩ := List.mem_map.1 he; exact (h.ok x hx).wf))
  have HFe := Lib.hid hf
  clear h hq hf
  go_enter Tryd.func49, Tryd.ntmps49
  go_wp2_with fail
  clear c0
  go_loopw [8, 20] (fun v i wr => ∃ k : Nat, k ≤ E.length ∧ i = .int .i64 (k : Int) ∧ Hid (wr.ownsRow w.heap.size 3 1 v (sumQ q party ((E.take k).map En.p)).length (intsV (sumQ q party ((E.take k).map En.p)))) ∧ Hid (Below w.heap.size w wr)) (fun _ i _ => E.length - (intOf i).toNat)
  case atStart => exact ⟨0, by omega, rfl, (show World.ownsRow _ _ _ _ _ _ _ from World.ownsRow_nil _ _ _ _), Below.refl _ _⟩
  case round =>
    obtain ⟨k, hk, rfl, HO, HB⟩ := hrel
    by_cases hlt : k < E.length
    · obtain ⟨x, hy⟩ : ∃ x, E[k]'hlt = x := ⟨_, rfl⟩
      have hx : E[k]? = some x := by rw [← hy]; exact List.getElem?_eq_getElem hlt
      have hxm : x ∈ E := by rw [← hy]; exact List.getElem_mem _
      have hLr := HL.out.after HB.out
      have hR := hLr.sl.recs
      have HXm := Lib.hid hxm
      have hxf := HFe.out x hxm
      have HTk : Hid (sumQ q party ((E.take (k + 1)).map En.p) = sumQ q party ((E.take k).map En.p) ++ lnsQ q party x.s x.ls) := by
        show _ = _
        rw [List.take_succ_eq_append_getElem hlt, hy, List.map_append, List.map_cons, List.map_nil, sumQ_snoc]
        rfl
      have hKl : (sumQ q party ((E.take k).map En.p)).length ≤ 100 * E.length := by
        have h1 := sumQ_len q party ((E.take k).map En.p) (fun e he => by obtain ⟨z, hz, rfl⟩ := List.mem_map.1 he; exact HFe.out z (List.mem_of_mem_take hz))
        rw [List.length_map, List.length_take] at h1
        have : min k E.length ≤ E.length := Nat.min_le_right _ _
        omega
      obtain ⟨b, o, rfl, _⟩ := hR (by omega)
      obtain ⟨⟨con, day, cur, seq, per, ref⟩, ea, ecap, els⟩ := x
      have c0 : wr.cell? ⟨b, o + k * 7, none⟩ = some (.int .i64 con) := RecsAt.cell hR rfl hlt hx (j := 0) rfl
      have c1 : wr.cell? ⟨b, o + k * 7 + 1, none⟩ = some (.int .i64 day) := RecsAt.cell hR rfl hlt hx (j := 1) rfl
      have c2 : wr.cell? ⟨b, o + k * 7 + 2, none⟩ = some (.int .i64 cur) := RecsAt.cell hR rfl hlt hx (j := 2) rfl
      have c3 : wr.cell? ⟨b, o + k * 7 + 3, none⟩ = some (.int .i64 seq) := RecsAt.cell hR rfl hlt hx (j := 3) rfl
      have c4 : wr.cell? ⟨b, o + k * 7 + 4, none⟩ = some (.int .i64 per) := RecsAt.cell hR rfl hlt hx (j := 4) rfl
      have c5 : wr.cell? ⟨b, o + k * 7 + 5, none⟩ = some (.int .i64 ref) := RecsAt.cell hR rfl hlt hx (j := 5) rfl
      have c6 : wr.cell? ⟨b, o + k * 7 + 6, none⟩ = some (.slice ea els.length ecap) := RecsAt.cell hR rfl hlt hx (j := 6) rfl
      dsimp only at HTk hxf
      obtain ⟨K, hKK⟩ : ∃ K, sumQ q party ((E.take k).map En.p) = K := ⟨_, rfl⟩
      rw [hKK] at HO hKl HTk
      obtain ⟨w1, hw1⟩ : ∃ W, wr.alloc (.cells #[.int .i64 con, .int .i64 day, .int .i64 cur, .int .i64 seq, .int .i64 per, .int .i64 ref, .slice ea els.length ecap] 26) = W := ⟨_, rfl⟩
      have hb1 : Below wr.heap.size wr w1 := by rw [← hw1]; exact (Below.refl _ _).alloc (Nat.le_refl _) _
      have hk1 : Blk w1 wr.heap.size #[.int .i64 con, .int .i64 day, .int .i64 cur, .int .i64 seq, .int .i64 per, .int .i64 ref, .slice ea els.length ecap] 26 := by rw [← hw1]; exact Blk.new _ _ _
      have z1 : w1.heap.size = wr.heap.size + 1 := by rw [← hw1]; simp
      have b6 : w1.cell? ⟨wr.heap.size, 6, none⟩ = some (.slice ea els.length ecap) := hk1.cell 6 rfl
      have HK1 := Lib.hid hk1
      have HW1 := Lib.hid hw1
      have HO1 := Lib.hid (own_after HO.out hb1)
      have HB1 := Lib.hid (HB.out.trans (hb1.mono HB.out.size))
      have i1 : (0 : Int) ≤ (k : Int) := by omega
      have i2 : (k : Int) < (E.length : Int) := by omega
      clear hy hx hxm hLr hR hKK hw1 hb1 hk1 HO HB
      go_wp2_with fail
      rw [HW1.out]
      clear c0 c1 c2 c3 c4 c5 c6 b6 HW1
      obtain ⟨wo, rfl⟩ : ∃ wo : World, wo = wr := ⟨_, rfl⟩
      go_loopw [8, 27] (fun v i wi => ∃ j : Nat, j ≤ els.length ∧ i = .int .i64 (j : Int) ∧ Hid (wi.ownsRow w.heap.size 3 1 v (K ++ lnsQ q party ⟨con, day, cur, seq, per, ref⟩ (els.take j)).length (intsV (K ++ lnsQ q party ⟨con, day, cur, seq, per, ref⟩ (els.take j)))) ∧ Hid (Below w.heap.size w wi ∧ Blk wi wo.heap.size #[.int .i64 con, .int .i64 day, .int .i64 cur, .int .i64 seq, .int .i64 per, .int .i64 ref, .slice ea els.length ecap] 26)) (fun _ i _ => els.length - (intOf i).toNat)
      case atStart => exact ⟨0, by omega, rfl, (by show World.ownsRow _ _ _ _ _ _ _; simpa [lnsQ] using HO1.out), HB1.out, HK1.out⟩
      case round =>
        obtain ⟨j, hj, rfl, HOi, HBi⟩ := hrel
        by_cases hjt : j < els.length
        · obtain ⟨lx, hly⟩ : ∃ lx, els[j]'hjt = lx := ⟨_, rfl⟩
          obtain ⟨lp, lc, la⟩ := lx
          have hsn := lnsQ_snoc q party ⟨con, day, cur, seq, per, ref⟩ (els.take j) ⟨lp, lc, la⟩
          rw [← hly, ← List.take_succ_eq_append_getElem hjt, hly] at hsn
          have hXi := (HL.out.ok ⟨⟨con, day, cur, seq, per, ref⟩, ea, ecap, els⟩ HXm.out).after HBi.out.1
          obtain ⟨b2, o2, ea', hc⟩ := hXi.ln (by show 0 < els.length; omega)
          obtain rfl : ea = some ⟨b2, o2, none⟩ := ea'
          obtain ⟨d0, d1, d2⟩ := hc j hjt
          have hat : Ln.at els j = ⟨lp, lc, la⟩ := by unfold Ln.at; rw [List.getD_eq_getElem?_getD, List.getElem?_eq_getElem hjt, hly]; rfl
          rw [hat] at d0 d1 d2
          dsimp only at d0 d1 d2
          have hlj : (lnsQ q party ⟨con, day, cur, seq, per, ref⟩ (els.take j)).length ≤ 100 := by have h1 := lnsQ_len q party ⟨con, day, cur, seq, per, ref⟩ (els.take j); rw [List.length_take] at h1; omega
          have HSn := Lib.hid hsn
          have HJt := Lib.hid hjt
          obtain ⟨M, hM⟩ : ∃ M, lnsQ q party ⟨con, day, cur, seq, per, ref⟩ (els.take j) = M := ⟨_, rfl⟩
          rw [hM] at HOi hlj HSn
          obtain ⟨KM, hKM⟩ : ∃ KM, K ++ M = KM := ⟨_, rfl⟩
          have hKMl : KM.length ≤ 100100 := by rw [← hKM, List.length_append]; omega
          have HKM : Hid (∀ N, K ++ (M ++ N) = KM ++ N) := fun N => by rw [← hKM, List.append_assoc]
          rw [hKM] at HOi
          have j1 : (0 : Int) ≤ (j : Int) := by omega
          have j2 : (j : Int) < (els.length : Int) := by omega
          obtain ⟨w5, hw5⟩ : ∃ W, wr.alloc (.cells #[.int .i64 lp, .int .i64 lc, .int .i64 la] 69) = W := ⟨_, rfl⟩
          have hb5 : Below wr.heap.size wr w5 := by rw [← hw5]; exact (Below.refl _ _).alloc (Nat.le_refl _) _
          have k5 : Blk w5 wr.heap.size #[.int .i64 lp, .int .i64 lc, .int .i64 la] 69 := by rw [← hw5]; exact Blk.new _ _ _
          have HW5 := Lib.hid hw5
          have hB5 := HBi.out.1.trans (hb5.mono HBi.out.1.size)
          have HB5 := Lib.hid hB5
          have HK5 := Lib.hid k5
          have HX5 := Lib.hid (HBi.out.2.after hb5)
          have HO5 := Lib.hid (own_after HOi.out hb5)
          have hbx := HBi.out.2
          have zb : wo.heap.size < wr.heap.size := hbx.lt
          have b0 : wr.cell? ⟨wo.heap.size, 0, none⟩ = some (.int .i64 con) := hbx.cell 0 rfl
          have b1 : wr.cell? ⟨wo.heap.size, 1, none⟩ = some (.int .i64 day) := hbx.cell 1 rfl
          have b2' : wr.cell? ⟨wo.heap.size, 2, none⟩ = some (.int .i64 cur) := hbx.cell 2 rfl
          have b3 : wr.cell? ⟨wo.heap.size, 3, none⟩ = some (.int .i64 seq) := hbx.cell 3 rfl
          have b4 : wr.cell? ⟨wo.heap.size, 4, none⟩ = some (.int .i64 per) := hbx.cell 4 rfl
          have b5 : wr.cell? ⟨wo.heap.size, 5, none⟩ = some (.int .i64 ref) := hbx.cell 5 rfl
          have b6 : wr.cell? ⟨wo.heap.size, 6, none⟩ = some (.slice (some ⟨b2, o2, none⟩) els.length ecap) := hbx.cell 6 rfl
          clear hsn hly hXi hc hat hM hKM hw5 hb5 k5 hB5 hbx HBi HOi hjt
          by_cases hp : lp = party
          · have e1 : (lp == party) = true := by rw [beq_iff_eq]; exact hp
            have HP := Lib.hid hp
            have hqc := HQ.out w5 ⟨con, day, cur, seq, per, ref⟩ (some ⟨b2, o2, none⟩) els.length ecap HB5.out
            dsimp only [entV] at hqc
            obtain ⟨Q, hQ⟩ : ∃ Q, q ⟨con, day, cur, seq, per, ref⟩ = Q := ⟨_, rfl⟩
            rw [hQ] at hqc
            have HQq := Lib.hid hQ
            have HQc := Lib.hid hqc
            clear hp hQ hqc
            go_wp2_with fail
            rw [HW5.out]
            with_reducible refine HQc.out.mono ?_
            rintro e w6 ⟨rfl, hb6⟩
            have HB6 := Lib.hid (HB5.out.trans (hb6.mono HB5.out.size))
            have HO6 := Lib.hid (own_after HO5.out hb6)
            have HX6 := Lib.hid (HX5.out.after hb6)
            have hk6 := HK5.out.after hb6
            have l2 : w6.cell? ⟨wr.heap.size, 2, none⟩ = some (.int .i64 la) := hk6.cell 2 rfl
            have z6 := HB6.out.size
            clear hb6 hk6 HB5 HO5 HX5 HK5 HQc HW5 b0 b1 b2' b3 b4 b5 b6 d0 d1 d2
            cases Q with
            | true =>
              go_wp2_with (at_builtin; refine wpList_append_own _ rfl _ _ 121 rfl w.heap.size 3 i0 (.int .i64 0) 1 8 Tryd.underlying121 hi hz0 hz1 hz2 rfl (by decide) _ _ _ rfl (HO6.out.alloc _) ⟨w6.heap.size, 0, none⟩ 1 1 [.int .i64 la] rfl rfl (by have := news_one w6 (.int .i64 la) 3; simpa using this) (by simp [Value.oneCell']) (by unfold maxLen; omega) (by omega) (by simp; omega) ?_; intro v' w7 hown' hgrow _)
              have hb7 : Below w.heap.size w w7 := (HB6.out.alloc HB6.out.size _).grown hgrow (by simp; omega) (fun g e => (own_cells HO6.out e).1)
              have hX7 : Blk w7 wo.heap.size _ _ := (HX6.out.alloc _).grown hgrow (HX6.out.own_ne HO6.out (by decide))
              rw [← intsV_snoc] at hown'
              have HFin : Hid (w7.ownsRow w.heap.size 3 1 v' (K ++ lnsQ q party ⟨con, day, cur, seq, per, ref⟩ (els.take (j + 1))).length (intsV (K ++ lnsQ q party ⟨con, day, cur, seq, per, ref⟩ (els.take (j + 1))))) := by
                show World.ownsRow _ _ _ _ _ _ _
                rw [HSn.out, if_pos (by simp [HP.out, HQq.out]), HKM.out, List.length_append]
                exact hown'
              have HB7 := Lib.hid hb7
              have HX7 := Lib.hid hX7
              clear hown' hgrow hb7 hX7
              have hjt := HJt.out
              go_roundw
              case rel => exact ⟨j + 1, by omega, by go_num, HFin, HB7.out, HX7.out⟩
              case measure => simp [intOf]; omega
            | false =>
              have HFin : Hid (w6.ownsRow w.heap.size 3 1 u8 (K ++ lnsQ q party ⟨con, day, cur, seq, per, ref⟩ (els.take (j + 1))).length (intsV (K ++ lnsQ q party ⟨con, day, cur, seq, per, ref⟩ (els.take (j + 1))))) := by
                show World.ownsRow _ _ _ _ _ _ _
                rw [HSn.out, if_neg (by simp [HQq.out]), HKM.out, List.append_nil]
                exact HO6.out
              go_wp2_with fail
              have hjt := HJt.out
              go_roundw
              case rel => exact ⟨j + 1, by omega, by go_num, HFin, HB6.out, HX6.out⟩
              case measure => simp [intOf]; omega
          · have e1 : (lp == party) = false := by rw [beq_eq_false_iff_ne]; exact hp
            have HFin : Hid (w5.ownsRow w.heap.size 3 1 u8 (K ++ lnsQ q party ⟨con, day, cur, seq, per, ref⟩ (els.take (j + 1))).length (intsV (K ++ lnsQ q party ⟨con, day, cur, seq, per, ref⟩ (els.take (j + 1))))) := by
              show World.ownsRow _ _ _ _ _ _ _
              rw [HSn.out, if_neg (by simp [hp]), HKM.out, List.append_nil]
              exact HO5.out
            clear hp
            go_wp2_with fail
            rw [HW5.out]
            have hjt := HJt.out
            go_roundw
            case rel => exact ⟨j + 1, by omega, by go_num, HFin, HB5.out, HX5.out⟩
            case measure => simp [intOf]; omega
        · obtain rfl : j = els.length := by omega
          rw [List.take_length] at HOi
          go_wp2_with fail
          go_roundw
          case rel => exact ⟨k + 1, by omega, by go_num, (by show World.ownsRow _ _ _ _ _ _ _; rw [HTk.out]; exact HOi.out), HBi.out.1⟩
          case measure => simp [intOf]; omega
    · obtain rfl : k = E.length := by omega
      have hO := HO.out
      rw [List.take_length] at hO
      have hlen := HLen.out
      rw [List.length_map] at hlen
      have hwf := HWf.out
      have HB2 := Lib.hid HB.out
      obtain ⟨xs, hxs⟩ : ∃ xs, sumQ q party (E.map En.p) = xs := ⟨_, rfl⟩
      rw [hxs] at hO hlen hwf
      have HXs := Lib.hid hxs
      obtain ⟨c, capc, rfl, hcl, _, _, _, _, hrow⟩ := owned_ints hO
      have hsum := sum_amount c capc xs wr hrow hwf (by omega)
      have HSA : Hid (sumA xs.sum = if fitsI xs.sum = true then .tuple #[.int .i64 xs.sum, .int .i64 0] else .tuple #[.int .i64 0, .int .i64 11]) := rfl
      obtain ⟨S, hS⟩ : ∃ S, xs.sum = S := ⟨_, rfl⟩
      rw [hS] at hsum HSA
      have HSS := Lib.hid hS
      cases hf : fitsI S
      all_goals
        rw [hf] at HSA
        first | rw [if_pos rfl] at HSA | rw [if_neg (by decide)] at HSA
        have HZ := Lib.hid HSA.out
        rw [HSA.out] at hsum
        have HC := Lib.hid hsum
        clear hsum hrow hwf hf hO hcl hlen hxs hS HSA HO HB
        go_wp2_with fail
        with_reducible refine HC.out.mono ?_
        rintro e w1 ⟨rfl, rfl⟩
        go_wp2_with fail
        go_ret2
        exact ⟨by rw [HXs.out, HSS.out, HZ.out]; rfl, HB2.out⟩

def qBal (cur seq : Int) (s : Six) : Bool := decide (s.cur = cur) && decide (s.seq ≤ seq)
def qPer (cur per : Int) (s : Six) : Bool := decide (s.cur = cur) && decide (s.per = per)
def qTag (t : Ln) (s : Six) : Bool := decide (s.tag = t)
theorem cntT_ok (B1 : Nat) (t : Ln) (W : World) (s : Six) (a : Option Addr) (n c : Nat) (hB : Blk W B1 #[.int .i64 t.p, .int .i64 t.c, .int .i64 t.a] 23) :
    Calls Tryd.prog 50 #[entV s a n c, .pointer (some ⟨B1, 0, none⟩)] W fun e w' => e = .returned (.bool (qTag t s)) ∧ Below W.heap.size W w' := by
  obtain ⟨tp, tc, ta⟩ := t
  obtain ⟨con, day, cu, sq, pr, ref⟩ := s
  unfold entV
  obtain ⟨w1, hw1⟩ : ∃ W1, W.alloc (.cells (entCs ⟨con, day, cu, sq, pr, ref⟩ a n c) 26) = W1 := ⟨_, rfl⟩
  have hb1 : Below W.heap.size W w1 := by rw [← hw1]; exact (Below.refl _ _).alloc (Nat.le_refl _) _
  have hbx : EBox w1 W.heap.size ⟨con, day, cu, sq, pr, ref⟩ a n c := by rw [← hw1]; exact EBox.new _ _ _ _ _ _
  obtain ⟨p0, p1, p2, p3, p4, p5, p6⟩ := id hbx
  dsimp only at p0 p1 p2 p3 p4 p5 p6
  have HB1 := Lib.hid hb1
  unfold entCs at hw1
  have hB1 := hB.after hb1
  have g0 : w1.cell? ⟨B1, 0, none⟩ = some (.int .i64 tp) := hB1.cell 0 rfl
  have g1 : w1.cell? ⟨B1, 1, none⟩ = some (.int .i64 tc) := hB1.cell 1 rfl
  have g2 : w1.cell? ⟨B1, 2, none⟩ = some (.int .i64 ta) := hB1.cell 2 rfl
  have ht := tag_eq con day cu tp tc ta
  clear hbx hb1 hB1 hB
  show Calls _ _ _ _ fun e w' => e = .returned (.bool (decide ((⟨con, day, cu⟩ : Ln) = ⟨tp, tc, ta⟩))) ∧ _
  obtain ⟨D, hD⟩ : ∃ D, decide ((⟨con, day, cu⟩ : Ln) = ⟨tp, tc, ta⟩) = D := ⟨_, rfl⟩
  rw [hD] at ht ⊢
  clear hD
  go_enter Tryd.func50, Tryd.ntmps50
  go_wp2_with fail
  go_ret
  exact ⟨rfl, HB1.out⟩
theorem sumA_two (z : Int) : ∃ n e, sumA z = .tuple #[.int .i64 n, .int .i64 e] := by
  unfold sumA
  split <;> exact ⟨_, _, rfl⟩
set_option maxHeartbeats 4000000 in
theorem ltot_ok (p bm : Nat) (a : Option Addr) (cap : Nat) (E : List En) (party tp tc ta : Int) (w : World) (h : LgAt w p bm a cap E) (hl : E.length ≤ 1000) (hf : ∀ e ∈ E, e.ls.length ≤ 100) :
    Calls Tryd.prog 35 #[.pointer (some ⟨p, 0, none⟩), .agg #[.int .i64 tp, .int .i64 tc, .int .i64 ta], .int .i64 party] w (SumEnd w (sumQ (qTag ⟨tp, tc, ta⟩) party (E.map En.p)).sum) := by
  obtain ⟨w1, hw1⟩ : ∃ W1, w.alloc (.cells #[.int .i64 tp, .int .i64 tc, .int .i64 ta] 23) = W1 := ⟨_, rfl⟩
  have hb1 : Below w.heap.size w w1 := by rw [← hw1]; exact (Below.refl _ _).alloc (Nat.le_refl _) _
  have k1 : Blk w1 w.heap.size #[.int .i64 tp, .int .i64 tc, .int .i64 ta] 23 := by rw [← hw1]; exact Blk.new _ _ _
  have hc := sumT_ok w.heap.size p bm a cap E party (qTag ⟨tp, tc, ta⟩) w1 (h.after hb1) hl hf (fun W s a n c hW => cntT_ok w.heap.size ⟨tp, tc, ta⟩ W s a n c (k1.after hW))
  obtain ⟨S, hS⟩ : ∃ S, (sumQ (qTag ⟨tp, tc, ta⟩) party (E.map En.p)).sum = S := ⟨_, rfl⟩
  rw [hS] at hc ⊢
  obtain ⟨n, er, hne⟩ := sumA_two S
  unfold SumEnd at hc ⊢
  rw [hne] at hc ⊢
  have HC := Lib.hid hc
  have HB1 := Lib.hid hb1
  have HW1 := Lib.hid hw1
  clear h hf hc hb1 hw1 k1 hS hne
  go_enter Tryd.func35, Tryd.ntmps35
  go_wp2_with fail
  rw [HW1.out]
  with_reducible refine HC.out.mono ?_
  rintro e w2 ⟨rfl, hb2⟩
  go_wp2_with fail
  go_ret2
  exact ⟨rfl, HB1.out.trans (hb2.mono HB1.out.size)⟩
end Go.Proofs.YtmjgcenhgpkhiaaDoor
