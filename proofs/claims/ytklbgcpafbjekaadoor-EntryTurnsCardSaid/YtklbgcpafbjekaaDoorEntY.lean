/- The statement EntrySums: its walk. -/
import Derived.Test.YtklbgcpafbjekaaDoorEntX
namespace Go.Proofs.YtklbgcpafbjekaaDoor
open Go.RowKit
set_option linter.unusedVariables false
set_option linter.unusedSimpArgs false


theorem take_at {es : List En} {j : Nat} (h : j < es.length) : es.take (j + 1) = es.take j ++ [En.at es j] := by
  rw [List.take_succ_eq_append_getElem h]
  unfold En.at
  rw [List.getD_eq_getElem?_getD, List.getElem?_eq_getElem h]
  rfl

theorem at_memE {es : List En} {i : Nat} (h : i < es.length) : En.at es i ∈ es := by
  unfold En.at
  rw [List.getD_eq_getElem?_getD, List.getElem?_eq_getElem h]
  exact List.getElem_mem h
theorem EnsIn.few {w : World} {a : Option Addr} {es : List En} (h : EnsIn w a es) (hf : ∀ e ∈ es, e.ls.length ≤ 20) : EnsAt w a es :=
  ⟨h.1, fun i hi => ⟨(h.2 i hi).ln, (h.2 i hi).wf, by have := hf _ (at_memE hi); omega, (h.2 i hi).nil⟩⟩
theorem EnsAt.mem {w : World} {a : Option Addr} {es : List En} (h : EnsAt w a es) {e : En} (he : e ∈ es) : EnOk w e := by
  obtain ⟨i, hi, rfl⟩ := List.getElem_of_mem he
  have := h.2 i hi
  unfold En.at at this
  rwa [List.getD_eq_getElem?_getD, List.getElem?_eq_getElem hi] at this
def sumV (z : Int) : Bool → Value
  | true => .tuple #[.int .i64 z, .int .i64 0]
  | false => .tuple #[.int .i64 0, .int .i64 11]
theorem sumA_of {z : Int} {b : Bool} (h : fitsI z = b) : sumA z = sumV z b := by
  unfold sumA
  rw [h]
  cases b <;> rfl

theorem fits_cases (z : Int) : (fitsI z = true ∧ -9223372036854775808 ≤ z ∧ z ≤ 9223372036854775807) ∨ fitsI z = false := by
  cases h : fitsI z
  · exact .inr rfl
  · unfold fitsI at h
    exact .inl ⟨rfl, by simpa using h⟩

def SumsRel (t : Ln) (wb : World) (xs ys : List En) (s9 v7 v8 : Value) (wr : World) : Prop :=
  ∃ L, ((s9 = .int .i64 0 ∧ [] = L) ∨ (s9 = .int .i64 1 ∧ xs = L ∧ xs.length ≤ 6) ∨ (s9 = .int .i64 2 ∧ xs ++ ys = L ∧ xs.length ≤ 6 ∧ ys.length ≤ 6)) ∧ (∀ e ∈ L, e.ls.length ≤ 20) ∧ SumRel t wb L v7 v8 wr

set_option maxHeartbeats 8000000 in
set_option maxRecDepth 100000 in
theorem walk_EntrySums (W : World) (hR : RulesAt W) (tp tc ta party : Int) (ax ay : Option Addr) (cx cy : Nat) (xs ys : List En) (hx : EnsIn W ax xs) (hy : EnsIn W ay ys) (hcx : xs.length ≤ 9223372036854775807) (hcy : ys.length ≤ 9223372036854775807) :
    Calls Tryd.prog 7 #[.agg #[.int .i64 tp, .int .i64 tc, .int .i64 ta], .int .i64 party, .agg #[.slice ax xs.length cx, .slice ay ys.length cy]] W fun e W' => e = .returned (.bool true) ∧ Below W.heap.size W W' := by
  obtain ⟨i0, hi, hz0, hz1, hz2⟩ := info_parts infoEnt
  have HX := Lib.hid hx
  have HY := Lib.hid hy
  obtain ⟨wa, hwa⟩ : ∃ wa, W.alloc (.cells #[.int .i64 tp, .int .i64 tc, .int .i64 ta] 23) = wa := ⟨_, rfl⟩
  obtain ⟨wb, hwb⟩ : ∃ wb, wa.alloc (.cells #[.slice ax xs.length cx, .slice ay ys.length cy] 56) = wb := ⟨_, rfl⟩
  have k0 : Blk wa W.heap.size #[.int .i64 tp, .int .i64 tc, .int .i64 ta] 23 := by rw [← hwa]; exact Blk.new _ _ _
  have k1 : Blk wb wa.heap.size #[.slice ax xs.length cx, .slice ay ys.length cy] 56 := by rw [← hwb]; exact Blk.new _ _ _
  have ba : Below W.heap.size W wa := by rw [← hwa]; exact (Below.refl _ _).alloc (Nat.le_refl _) _
  have bb : Below wa.heap.size wa wb := by rw [← hwb]; exact (Below.refl _ _).alloc (Nat.le_refl _) _
  have hbW : Below W.heap.size W wb := ba.trans (bb.mono ba.size)
  have K0 := Lib.hid (k0.after bb)
  have K1 := Lib.hid k1
  have HR := Lib.hid (hR.after hbW)
  clear k0 k1 ba bb hR hx hy
  go_enter Tryd.func7, Tryd.ntmps7
  go_wp2_with fail
  clear hwa hwb
  go_loopw [7, 8, 9, 10] (fun v7 v8 s9 _ wr => SumsRel ⟨tp, tc, ta⟩ wb xs ys s9 v7 v8 wr) (fun _ _ i _ _ => 2 - (intOf i).toNat)
  case atStart => exact ⟨[], .inl ⟨rfl, rfl⟩, fun e he => (by cases he), World.ownsRow_nil _ _ _ _, World.ownsRow_nil _ _ _ _, fun x hx => (by cases hx), Below.refl _ _⟩
  case round =>
    obtain ⟨L, ⟨rfl, rfl⟩ | ⟨rfl, rfl, hx6⟩ | ⟨rfl, rfl, hx6, hy6⟩, hfew, hsum⟩ := hrel
    · have hbl := hsum.2.2.2
      have hrel := hsum
      have HFEW := Lib.hid hfew
      have HREL := Lib.hid hrel
      clear hsum hrel hfew
      have t0 : wr.cell? ⟨W.heap.size, 0, none⟩ = some (.int .i64 tp) := (K0.out.after (hbl)).cell 0 rfl
      have t1 : wr.cell? ⟨W.heap.size, 1, none⟩ = some (.int .i64 tc) := (K0.out.after (hbl)).cell 1 rfl
      have t2 : wr.cell? ⟨W.heap.size, 2, none⟩ = some (.int .i64 ta) := (K0.out.after (hbl)).cell 2 rfl
      have b0 : wr.cell? ⟨wa.heap.size, 0, none⟩ = some (.slice (ax) xs.length cx) := (K1.out.after (hbl)).cell 0 rfl
      have b1 : wr.cell? ⟨wa.heap.size, 1, none⟩ = some (.slice (ay) ys.length cy) := (K1.out.after (hbl)).cell 1 rfl
      by_cases h6 : xs.length ≤ 6
      · have h6' : decide (6 < (xs.length : Int)) = false := by rw [decide_eq_false_iff_not]; omega
        go_wp2_with fail
        clear t0 t1 t2 b0 b1
        clear h6'
        obtain ⟨wo, rfl⟩ : ∃ wo : World, wo = wr := ⟨_, rfl⟩
        go_loopw [7, 8, 10] (fun v7 v8 s10 wi => ∃ j : Nat, j ≤ xs.length ∧ s10 = .int .i64 j ∧ (∀ e ∈ ([] : List En) ++ xs.take j, e.ls.length ≤ 20) ∧ SumRel ⟨tp, tc, ta⟩ wb (([] : List En) ++ xs.take j) v7 v8 wi) (fun _ _ i _ => xs.length - (intOf i).toNat)
        case atStart => exact ⟨0, by omega, rfl, fun e he => HFEW.out e (by rw [List.take_zero, List.append_nil] at he; exact he), by rw [List.take_zero, List.append_nil]; exact HREL.out⟩
        case round =>
          obtain ⟨j, hj, rfl, hfew, o7, o8, hap, hbl⟩ := hrel
          have hend : Below W.heap.size W wr := hbW.trans (hbl.mono hbW.size)
          by_cases hlt : j < xs.length
          · obtain ⟨b, o, rfl, hbb, hcell⟩ := HX.out.cells (by omega)
            have hE := Lib.hid (HX.out.2 j hlt)
            have hC := Lib.hid (hcell j hlt)
            have hT : Hid (([] : List En) ++ xs.take (j + 1) = ([] : List En) ++ xs.take j ++ [En.at xs j]) := by show _ = _; rw [take_at hlt, List.append_assoc]
            obtain ⟨⟨⟨n0, n1, n2, n3, n4, n5⟩, ea, ecap, els⟩, hEE⟩ : ∃ E, En.at xs j = E := ⟨_, rfl⟩
            rw [hEE] at hE hC hT
            have hll : (([] : List En) ++ xs.take j).length ≤ 100 := by have := h6; simp only [List.length_append, List.length_nil, List.length_take]; omega
            obtain ⟨L, hLL⟩ : ∃ L, ([] : List En) ++ xs.take j = L := ⟨_, rfl⟩
            rw [hLL] at o7 o8 hT hfew hll
            have hlo := own_len ⟨tp, tc, ta⟩ L
            have HFW := Lib.hid hfew
            have HO7 := Lib.hid o7
            have HO8 := Lib.hid o8
            have HAP := Lib.hid hap
            have i1 : (0 : Int) ≤ (j : Int) := by omega
            have i2 : (j : Int) < (xs.length : Int) := by omega
            clear hcell hEE hLL o7 o8 hap hfew
            have t0 : wr.cell? ⟨W.heap.size, 0, none⟩ = some (.int .i64 tp) := (K0.out.after (hbl)).cell 0 rfl
            have t1 : wr.cell? ⟨W.heap.size, 1, none⟩ = some (.int .i64 tc) := (K0.out.after (hbl)).cell 1 rfl
            have t2 : wr.cell? ⟨W.heap.size, 2, none⟩ = some (.int .i64 ta) := (K0.out.after (hbl)).cell 2 rfl
            have b0 : wr.cell? ⟨wa.heap.size, 0, none⟩ = some (.slice (some ⟨b, o, none⟩) xs.length cx) := (K1.out.after (hbl)).cell 0 rfl
            have b1 : wr.cell? ⟨wa.heap.size, 1, none⟩ = some (.slice (ay) ys.length cy) := (K1.out.after (hbl)).cell 1 rfl
            obtain ⟨a0, a1, a2, a3, a4, a5, a6⟩ := hC.out.after hend hbb
            dsimp only at a0 a1 a2 a3 a4 a5 a6
            go_wp2_with fail
            clear a0 a1 a2 a3 a4 a5 a6
            clear t0 t1 t2 b0 b1
            have hfew := few_ok ⟨n0, n1, n2, n3, n4, n5⟩ ea ecap els.length wr hE.out.big
            dsimp only [entV] at hfew
            by_cases hf : els.length ≤ 20
            · rw [decide_eq_true hf] at hfew
              have HF := Lib.hid hfew
              clear hfew
              with_reducible refine HF.out.mono ?_
              rintro e w1 ⟨rfl, hb1⟩
              have hbl1 : Below wb.heap.size wb w1 := hbl.trans (hb1.mono hbl.size)
              have hend1 : Below W.heap.size W w1 := hend.trans (hb1.mono hend.size)
              have zz : wb.heap.size ≤ w1.heap.size := hbl1.size
              have HREL1 : Hid (SumRel ⟨tp, tc, ta⟩ wb L _ _ w1) := ⟨own_after HO7.out hb1, own_after HO8.out hb1, HAP.out, hbl1⟩
              have HM7 := Lib.hid HREL1.out.1
              have bal1 : Below w1.heap.size w1 (w1.alloc (.cells #[.int .i64 n0, .int .i64 n1, .int .i64 n2, .int .i64 n3, .int .i64 n4, .int .i64 n5, .slice ea els.length ecap] 26)) := (Below.refl _ _).alloc (Nat.le_refl _) _
              have hte := tag_eq n0 n1 n2 tp tc ta
              have t0 : w1.cell? ⟨W.heap.size, 0, none⟩ = some (.int .i64 tp) := (K0.out.after (hbl1)).cell 0 rfl
              have t1 : w1.cell? ⟨W.heap.size, 1, none⟩ = some (.int .i64 tc) := (K0.out.after (hbl1)).cell 1 rfl
              have t2 : w1.cell? ⟨W.heap.size, 2, none⟩ = some (.int .i64 ta) := (K0.out.after (hbl1)).cell 2 rfl
              have b0 : w1.cell? ⟨wa.heap.size, 0, none⟩ = some (.slice (some ⟨b, o, none⟩) xs.length cx) := (K1.out.after (hbl1)).cell 0 rfl
              have b1 : w1.cell? ⟨wa.heap.size, 1, none⟩ = some (.slice (ay) ys.length cy) := (K1.out.after (hbl1)).cell 1 rfl
              obtain ⟨a0, a1, a2, a3, a4, a5, a6⟩ := hC.out.after hend1 hbb
              dsimp only at a0 a1 a2 a3 a4 a5 a6
              by_cases ht : (⟨n0, n1, n2⟩ : Ln) = ⟨tp, tc, ta⟩
              · rw [decide_eq_true ht] at hte
                have HT := Lib.hid ht
                clear ht
                go_wp2_with (first
                  | go_quiet (fail)
                  | (at_builtin; refine wpList_append_lies _ rfl (.tmp 46) (.tmp 53) 51 rfl wb.heap.size 26 i0 _ 7 72 Tryd.underlying51 hi hz0 hz1 hz2 rfl (by decide) _ L.length _ rfl (HM7.out.alloc _) ⟨w1.heap.size, 0, none⟩ 1 1 [.int .i64 n0, .int .i64 n1, .int .i64 n2, .int .i64 n3, .int .i64 n4, .int .i64 n5, .slice ea els.length ecap] rfl rfl (World.news_of_block (cs := #[.int .i64 n0, .int .i64 n1, .int .i64 n2, .int .i64 n3, .int .i64 n4, .int .i64 n5, .slice ea els.length ecap]) (t := 26) (fr := (0, 0)) (heap_alloc_new w1 _)) (by simp [Value.oneCell']) (by omega) (by unfold maxLen; omega) (by omega) (by simp; omega) (w1.heap.size + 1) (by simp) ?_; intro g7 c7 w4 hown7 hgrow7 hat7 _; have hmid : SumMid ⟨tp, tc, ta⟩ wb L ⟨⟨n0, n1, n2, n3, n4, n5⟩, ea, ecap, els⟩ (.slice (some ⟨g7, 0, none⟩) (L.length + 1) c7) _ w4 := SumRel.mid (H := w1.heap.size + 1) (HREL1.out) (bal1) hown7 hgrow7 hat7 (by simp); have hbl4 := hmid.2.2.2; obtain ⟨a0, a1, a2, a3, a4, a5, a6⟩ := hC.out.after (hbW.trans (hbl4.mono hbW.size)) hbb; dsimp only at a0 a1 a2 a3 a4 a5 a6; have t0 : w4.cell? ⟨W.heap.size, 0, none⟩ = some (.int .i64 tp) := (K0.out.after hbl4).cell 0 rfl; have t1 : w4.cell? ⟨W.heap.size, 1, none⟩ = some (.int .i64 tc) := (K0.out.after hbl4).cell 1 rfl; have t2 : w4.cell? ⟨W.heap.size, 2, none⟩ = some (.int .i64 ta) := (K0.out.after hbl4).cell 2 rfl; have b0 : w4.cell? ⟨wa.heap.size, 0, none⟩ = some (.slice (some ⟨b, o, none⟩) xs.length cx) := (K1.out.after hbl4).cell 0 rfl; have b1 : w4.cell? ⟨wa.heap.size, 1, none⟩ = some (.slice (ay) ys.length cy) := (K1.out.after hbl4).cell 1 rfl; have z4 := hbl4.size; have HMID := Lib.hid hmid; clear hmid)
                  | (at_builtin; refine wpList_append_lies _ rfl (.tmp 64) (.tmp 71) 51 rfl wb.heap.size 26 i0 _ 7 72 Tryd.underlying51 hi hz0 hz1 hz2 rfl (by decide) _ (ownOf ⟨tp, tc, ta⟩ L).length _ rfl ((own_after HMID.out.2.1 (below_draws _ _)).alloc _) ⟨w4.heap.size, 0, none⟩ 1 1 [.int .i64 n0, .int .i64 n1, .int .i64 n2, .int .i64 n3, .int .i64 n4, .int .i64 n5, .slice ea els.length ecap] rfl rfl (World.news_of_block (cs := #[.int .i64 n0, .int .i64 n1, .int .i64 n2, .int .i64 n3, .int .i64 n4, .int .i64 n5, .slice ea els.length ecap]) (t := 26) (fr := (0, 0)) (heap_alloc_new (World.drewN w4 _) _)) (by simp [Value.oneCell']) (by omega) (by unfold maxLen; omega) (by omega) (by simp; omega) (w4.heap.size + 1) (by simp) ?_; intro g8 c8 w6 hown8 hgrow8 hat8 _))
                clear a0 a1 a2 a3 a4 a5 a6 t0 t1 t2 b0 b1
                have hfin := HMID.out.yes (H := w4.heap.size + 1) ((below_draws w4 _).trans ((Below.refl _ _).alloc (by simp) _)) hown8 hgrow8 hat8 (by simp) (show Six.tag _ = _ from HT.out)
                rw [← hT.out] at hfin
                go_roundw
                case rel => exact ⟨j + 1, by omega, by go_num, fun e he => by
                  rw [hT.out] at he
                  rcases List.mem_append.1 he with he | he
                  · exact HFW.out e he
                  · obtain rfl := List.mem_singleton.1 he
                    exact hf, hfin⟩
                case measure => simp [intOf]; omega
              · rw [decide_eq_false ht] at hte
                have HT := Lib.hid ht
                clear ht
                go_wp2_with (first
                  | go_quiet (fail)
                  | (at_builtin; refine wpList_append_lies _ rfl (.tmp 46) (.tmp 53) 51 rfl wb.heap.size 26 i0 _ 7 72 Tryd.underlying51 hi hz0 hz1 hz2 rfl (by decide) _ L.length _ rfl (HM7.out.alloc _) ⟨w1.heap.size, 0, none⟩ 1 1 [.int .i64 n0, .int .i64 n1, .int .i64 n2, .int .i64 n3, .int .i64 n4, .int .i64 n5, .slice ea els.length ecap] rfl rfl (World.news_of_block (cs := #[.int .i64 n0, .int .i64 n1, .int .i64 n2, .int .i64 n3, .int .i64 n4, .int .i64 n5, .slice ea els.length ecap]) (t := 26) (fr := (0, 0)) (heap_alloc_new w1 _)) (by simp [Value.oneCell']) (by omega) (by unfold maxLen; omega) (by omega) (by simp; omega) (w1.heap.size + 1) (by simp) ?_; intro g7 c7 w4 hown7 hgrow7 hat7 _; have hmid : SumMid ⟨tp, tc, ta⟩ wb L ⟨⟨n0, n1, n2, n3, n4, n5⟩, ea, ecap, els⟩ (.slice (some ⟨g7, 0, none⟩) (L.length + 1) c7) _ w4 := SumRel.mid (H := w1.heap.size + 1) (HREL1.out) (bal1) hown7 hgrow7 hat7 (by simp); have hbl4 := hmid.2.2.2; obtain ⟨a0, a1, a2, a3, a4, a5, a6⟩ := hC.out.after (hbW.trans (hbl4.mono hbW.size)) hbb; dsimp only at a0 a1 a2 a3 a4 a5 a6; have t0 : w4.cell? ⟨W.heap.size, 0, none⟩ = some (.int .i64 tp) := (K0.out.after hbl4).cell 0 rfl; have t1 : w4.cell? ⟨W.heap.size, 1, none⟩ = some (.int .i64 tc) := (K0.out.after hbl4).cell 1 rfl; have t2 : w4.cell? ⟨W.heap.size, 2, none⟩ = some (.int .i64 ta) := (K0.out.after hbl4).cell 2 rfl; have b0 : w4.cell? ⟨wa.heap.size, 0, none⟩ = some (.slice (some ⟨b, o, none⟩) xs.length cx) := (K1.out.after hbl4).cell 0 rfl; have b1 : w4.cell? ⟨wa.heap.size, 1, none⟩ = some (.slice (ay) ys.length cy) := (K1.out.after hbl4).cell 1 rfl; have z4 := hbl4.size; have HMID := Lib.hid hmid; clear hmid))
                clear a0 a1 a2 a3 a4 a5 a6 t0 t1 t2 b0 b1
                have hfin : ∀ n, SumRel ⟨tp, tc, ta⟩ wb (([] : List En) ++ xs.take (j + 1)) _ _ (w4.drewN n) := fun n => by rw [hT.out]; exact HMID.out.no (below_draws w4 n) (show ¬ Six.tag _ = _ from HT.out)
                go_roundw
                case rel => exact ⟨j + 1, by omega, by go_num, fun e he => by
                  rw [hT.out] at he
                  rcases List.mem_append.1 he with he | he
                  · exact HFW.out e he
                  · obtain rfl := List.mem_singleton.1 he
                    exact hf, hfin _⟩
                case measure => simp [intOf]; omega
            · rw [decide_eq_false hf] at hfew
              have HF := Lib.hid hfew
              clear hfew
              with_reducible refine HF.out.mono ?_
              rintro e w1 ⟨rfl, hb1⟩
              have hb1' : Below wb.heap.size wb w1 := hbl.trans (hb1.mono hbl.size)
              go_wp2_with fail
              with_reducible refine (awake_ok _ (HR.out.after hb1')).mono ?_
              rintro e w9 ⟨rfl, hb9⟩
              go_wp2_with fail
              go_ret
              exact ⟨rfl, hbW.trans ((hb1'.trans (hb9.mono hb1'.size)).mono hbW.size)⟩
          · obtain rfl : j = xs.length := by omega
            rw [List.take_length] at hfew o7 o8
            have HSR : Hid (SumRel ⟨tp, tc, ta⟩ wb (([] : List En) ++ xs) _ _ wr) := ⟨o7, o8, hap, hbl⟩
            have HFW := Lib.hid hfew
            clear o7 o8 hap hfew
            have t0 : wr.cell? ⟨W.heap.size, 0, none⟩ = some (.int .i64 tp) := (K0.out.after (hbl)).cell 0 rfl
            have t1 : wr.cell? ⟨W.heap.size, 1, none⟩ = some (.int .i64 tc) := (K0.out.after (hbl)).cell 1 rfl
            have t2 : wr.cell? ⟨W.heap.size, 2, none⟩ = some (.int .i64 ta) := (K0.out.after (hbl)).cell 2 rfl
            have b0 : wr.cell? ⟨wa.heap.size, 0, none⟩ = some (.slice (ax) xs.length cx) := (K1.out.after (hbl)).cell 0 rfl
            have b1 : wr.cell? ⟨wa.heap.size, 1, none⟩ = some (.slice (ay) ys.length cy) := (K1.out.after (hbl)).cell 1 rfl
            go_wp2_with fail
            clear t0 t1 t2 b0 b1
            go_roundw
            case rel => exact ⟨([] : List En) ++ xs, .inr (.inl ⟨rfl, rfl, h6⟩), HFW.out, HSR.out⟩
            case measure => simp [intOf]
      · have h6' : decide (6 < (xs.length : Int)) = true := by rw [decide_eq_true_iff]; omega
        have h7' : decide (6 < xs.length) = true := by rw [decide_eq_true_iff]; omega
        go_wp2_with fail
        clear t0 t1 t2 b0 b1
        go_wp2_with fail
        with_reducible refine (awake_ok _ (HR.out.after hbl)).mono ?_
        rintro e w9 ⟨rfl, hb9⟩
        go_wp2_with fail
        go_ret
        exact ⟨rfl, hbW.trans ((hbl.trans (hb9.mono hbl.size)).mono hbW.size)⟩
    · have hbl := hsum.2.2.2
      have hrel := hsum
      have HFEW := Lib.hid hfew
      have HREL := Lib.hid hrel
      clear hsum hrel hfew
      have t0 : wr.cell? ⟨W.heap.size, 0, none⟩ = some (.int .i64 tp) := (K0.out.after (hbl)).cell 0 rfl
      have t1 : wr.cell? ⟨W.heap.size, 1, none⟩ = some (.int .i64 tc) := (K0.out.after (hbl)).cell 1 rfl
      have t2 : wr.cell? ⟨W.heap.size, 2, none⟩ = some (.int .i64 ta) := (K0.out.after (hbl)).cell 2 rfl
      have b0 : wr.cell? ⟨wa.heap.size, 0, none⟩ = some (.slice (ax) xs.length cx) := (K1.out.after (hbl)).cell 0 rfl
      have b1 : wr.cell? ⟨wa.heap.size, 1, none⟩ = some (.slice (ay) ys.length cy) := (K1.out.after (hbl)).cell 1 rfl
      by_cases h6 : ys.length ≤ 6
      · have h6' : decide (6 < (ys.length : Int)) = false := by rw [decide_eq_false_iff_not]; omega
        go_wp2_with fail
        clear t0 t1 t2 b0 b1
        clear h6'
        obtain ⟨wo, rfl⟩ : ∃ wo : World, wo = wr := ⟨_, rfl⟩
        go_loopw [7, 8, 10] (fun v7 v8 s10 wi => ∃ j : Nat, j ≤ ys.length ∧ s10 = .int .i64 j ∧ (∀ e ∈ xs ++ ys.take j, e.ls.length ≤ 20) ∧ SumRel ⟨tp, tc, ta⟩ wb (xs ++ ys.take j) v7 v8 wi) (fun _ _ i _ => ys.length - (intOf i).toNat)
        case atStart => exact ⟨0, by omega, rfl, fun e he => HFEW.out e (by rw [List.take_zero, List.append_nil] at he; exact he), by rw [List.take_zero, List.append_nil]; exact HREL.out⟩
        case round =>
          obtain ⟨j, hj, rfl, hfew, o7, o8, hap, hbl⟩ := hrel
          have hend : Below W.heap.size W wr := hbW.trans (hbl.mono hbW.size)
          by_cases hlt : j < ys.length
          · obtain ⟨b, o, rfl, hbb, hcell⟩ := HY.out.cells (by omega)
            have hE := Lib.hid (HY.out.2 j hlt)
            have hC := Lib.hid (hcell j hlt)
            have hT : Hid (xs ++ ys.take (j + 1) = xs ++ ys.take j ++ [En.at ys j]) := by show _ = _; rw [take_at hlt, List.append_assoc]
            obtain ⟨⟨⟨n0, n1, n2, n3, n4, n5⟩, ea, ecap, els⟩, hEE⟩ : ∃ E, En.at ys j = E := ⟨_, rfl⟩
            rw [hEE] at hE hC hT
            have hll : (xs ++ ys.take j).length ≤ 100 := by have := hx6; simp only [List.length_append, List.length_nil, List.length_take]; omega
            obtain ⟨L, hLL⟩ : ∃ L, xs ++ ys.take j = L := ⟨_, rfl⟩
            rw [hLL] at o7 o8 hT hfew hll
            have hlo := own_len ⟨tp, tc, ta⟩ L
            have HFW := Lib.hid hfew
            have HO7 := Lib.hid o7
            have HO8 := Lib.hid o8
            have HAP := Lib.hid hap
            have i1 : (0 : Int) ≤ (j : Int) := by omega
            have i2 : (j : Int) < (ys.length : Int) := by omega
            clear hcell hEE hLL o7 o8 hap hfew
            have t0 : wr.cell? ⟨W.heap.size, 0, none⟩ = some (.int .i64 tp) := (K0.out.after (hbl)).cell 0 rfl
            have t1 : wr.cell? ⟨W.heap.size, 1, none⟩ = some (.int .i64 tc) := (K0.out.after (hbl)).cell 1 rfl
            have t2 : wr.cell? ⟨W.heap.size, 2, none⟩ = some (.int .i64 ta) := (K0.out.after (hbl)).cell 2 rfl
            have b0 : wr.cell? ⟨wa.heap.size, 0, none⟩ = some (.slice (ax) xs.length cx) := (K1.out.after (hbl)).cell 0 rfl
            have b1 : wr.cell? ⟨wa.heap.size, 1, none⟩ = some (.slice (some ⟨b, o, none⟩) ys.length cy) := (K1.out.after (hbl)).cell 1 rfl
            obtain ⟨a0, a1, a2, a3, a4, a5, a6⟩ := hC.out.after hend hbb
            dsimp only at a0 a1 a2 a3 a4 a5 a6
            go_wp2_with fail
            clear a0 a1 a2 a3 a4 a5 a6
            clear t0 t1 t2 b0 b1
            have hfew := few_ok ⟨n0, n1, n2, n3, n4, n5⟩ ea ecap els.length wr hE.out.big
            dsimp only [entV] at hfew
            by_cases hf : els.length ≤ 20
            · rw [decide_eq_true hf] at hfew
              have HF := Lib.hid hfew
              clear hfew
              with_reducible refine HF.out.mono ?_
              rintro e w1 ⟨rfl, hb1⟩
              have hbl1 : Below wb.heap.size wb w1 := hbl.trans (hb1.mono hbl.size)
              have hend1 : Below W.heap.size W w1 := hend.trans (hb1.mono hend.size)
              have zz : wb.heap.size ≤ w1.heap.size := hbl1.size
              have HREL1 : Hid (SumRel ⟨tp, tc, ta⟩ wb L _ _ w1) := ⟨own_after HO7.out hb1, own_after HO8.out hb1, HAP.out, hbl1⟩
              have HM7 := Lib.hid HREL1.out.1
              have bal1 : Below w1.heap.size w1 (w1.alloc (.cells #[.int .i64 n0, .int .i64 n1, .int .i64 n2, .int .i64 n3, .int .i64 n4, .int .i64 n5, .slice ea els.length ecap] 26)) := (Below.refl _ _).alloc (Nat.le_refl _) _
              have hte := tag_eq n0 n1 n2 tp tc ta
              have t0 : w1.cell? ⟨W.heap.size, 0, none⟩ = some (.int .i64 tp) := (K0.out.after (hbl1)).cell 0 rfl
              have t1 : w1.cell? ⟨W.heap.size, 1, none⟩ = some (.int .i64 tc) := (K0.out.after (hbl1)).cell 1 rfl
              have t2 : w1.cell? ⟨W.heap.size, 2, none⟩ = some (.int .i64 ta) := (K0.out.after (hbl1)).cell 2 rfl
              have b0 : w1.cell? ⟨wa.heap.size, 0, none⟩ = some (.slice (ax) xs.length cx) := (K1.out.after (hbl1)).cell 0 rfl
              have b1 : w1.cell? ⟨wa.heap.size, 1, none⟩ = some (.slice (some ⟨b, o, none⟩) ys.length cy) := (K1.out.after (hbl1)).cell 1 rfl
              obtain ⟨a0, a1, a2, a3, a4, a5, a6⟩ := hC.out.after hend1 hbb
              dsimp only at a0 a1 a2 a3 a4 a5 a6
              by_cases ht : (⟨n0, n1, n2⟩ : Ln) = ⟨tp, tc, ta⟩
              · rw [decide_eq_true ht] at hte
                have HT := Lib.hid ht
                clear ht
                go_wp2_with (first
                  | go_quiet (fail)
                  | (at_builtin; refine wpList_append_lies _ rfl (.tmp 46) (.tmp 53) 51 rfl wb.heap.size 26 i0 _ 7 72 Tryd.underlying51 hi hz0 hz1 hz2 rfl (by decide) _ L.length _ rfl (HM7.out.alloc _) ⟨w1.heap.size, 0, none⟩ 1 1 [.int .i64 n0, .int .i64 n1, .int .i64 n2, .int .i64 n3, .int .i64 n4, .int .i64 n5, .slice ea els.length ecap] rfl rfl (World.news_of_block (cs := #[.int .i64 n0, .int .i64 n1, .int .i64 n2, .int .i64 n3, .int .i64 n4, .int .i64 n5, .slice ea els.length ecap]) (t := 26) (fr := (0, 0)) (heap_alloc_new w1 _)) (by simp [Value.oneCell']) (by omega) (by unfold maxLen; omega) (by omega) (by simp; omega) (w1.heap.size + 1) (by simp) ?_; intro g7 c7 w4 hown7 hgrow7 hat7 _; have hmid : SumMid ⟨tp, tc, ta⟩ wb L ⟨⟨n0, n1, n2, n3, n4, n5⟩, ea, ecap, els⟩ (.slice (some ⟨g7, 0, none⟩) (L.length + 1) c7) _ w4 := SumRel.mid (H := w1.heap.size + 1) (HREL1.out) (bal1) hown7 hgrow7 hat7 (by simp); have hbl4 := hmid.2.2.2; obtain ⟨a0, a1, a2, a3, a4, a5, a6⟩ := hC.out.after (hbW.trans (hbl4.mono hbW.size)) hbb; dsimp only at a0 a1 a2 a3 a4 a5 a6; have t0 : w4.cell? ⟨W.heap.size, 0, none⟩ = some (.int .i64 tp) := (K0.out.after hbl4).cell 0 rfl; have t1 : w4.cell? ⟨W.heap.size, 1, none⟩ = some (.int .i64 tc) := (K0.out.after hbl4).cell 1 rfl; have t2 : w4.cell? ⟨W.heap.size, 2, none⟩ = some (.int .i64 ta) := (K0.out.after hbl4).cell 2 rfl; have b0 : w4.cell? ⟨wa.heap.size, 0, none⟩ = some (.slice (ax) xs.length cx) := (K1.out.after hbl4).cell 0 rfl; have b1 : w4.cell? ⟨wa.heap.size, 1, none⟩ = some (.slice (some ⟨b, o, none⟩) ys.length cy) := (K1.out.after hbl4).cell 1 rfl; have z4 := hbl4.size; have HMID := Lib.hid hmid; clear hmid)
                  | (at_builtin; refine wpList_append_lies _ rfl (.tmp 64) (.tmp 71) 51 rfl wb.heap.size 26 i0 _ 7 72 Tryd.underlying51 hi hz0 hz1 hz2 rfl (by decide) _ (ownOf ⟨tp, tc, ta⟩ L).length _ rfl ((own_after HMID.out.2.1 (below_draws _ _)).alloc _) ⟨w4.heap.size, 0, none⟩ 1 1 [.int .i64 n0, .int .i64 n1, .int .i64 n2, .int .i64 n3, .int .i64 n4, .int .i64 n5, .slice ea els.length ecap] rfl rfl (World.news_of_block (cs := #[.int .i64 n0, .int .i64 n1, .int .i64 n2, .int .i64 n3, .int .i64 n4, .int .i64 n5, .slice ea els.length ecap]) (t := 26) (fr := (0, 0)) (heap_alloc_new (World.drewN w4 _) _)) (by simp [Value.oneCell']) (by omega) (by unfold maxLen; omega) (by omega) (by simp; omega) (w4.heap.size + 1) (by simp) ?_; intro g8 c8 w6 hown8 hgrow8 hat8 _))
                clear a0 a1 a2 a3 a4 a5 a6 t0 t1 t2 b0 b1
                have hfin := HMID.out.yes (H := w4.heap.size + 1) ((below_draws w4 _).trans ((Below.refl _ _).alloc (by simp) _)) hown8 hgrow8 hat8 (by simp) (show Six.tag _ = _ from HT.out)
                rw [← hT.out] at hfin
                go_roundw
                case rel => exact ⟨j + 1, by omega, by go_num, fun e he => by
                  rw [hT.out] at he
                  rcases List.mem_append.1 he with he | he
                  · exact HFW.out e he
                  · obtain rfl := List.mem_singleton.1 he
                    exact hf, hfin⟩
                case measure => simp [intOf]; omega
              · rw [decide_eq_false ht] at hte
                have HT := Lib.hid ht
                clear ht
                go_wp2_with (first
                  | go_quiet (fail)
                  | (at_builtin; refine wpList_append_lies _ rfl (.tmp 46) (.tmp 53) 51 rfl wb.heap.size 26 i0 _ 7 72 Tryd.underlying51 hi hz0 hz1 hz2 rfl (by decide) _ L.length _ rfl (HM7.out.alloc _) ⟨w1.heap.size, 0, none⟩ 1 1 [.int .i64 n0, .int .i64 n1, .int .i64 n2, .int .i64 n3, .int .i64 n4, .int .i64 n5, .slice ea els.length ecap] rfl rfl (World.news_of_block (cs := #[.int .i64 n0, .int .i64 n1, .int .i64 n2, .int .i64 n3, .int .i64 n4, .int .i64 n5, .slice ea els.length ecap]) (t := 26) (fr := (0, 0)) (heap_alloc_new w1 _)) (by simp [Value.oneCell']) (by omega) (by unfold maxLen; omega) (by omega) (by simp; omega) (w1.heap.size + 1) (by simp) ?_; intro g7 c7 w4 hown7 hgrow7 hat7 _; have hmid : SumMid ⟨tp, tc, ta⟩ wb L ⟨⟨n0, n1, n2, n3, n4, n5⟩, ea, ecap, els⟩ (.slice (some ⟨g7, 0, none⟩) (L.length + 1) c7) _ w4 := SumRel.mid (H := w1.heap.size + 1) (HREL1.out) (bal1) hown7 hgrow7 hat7 (by simp); have hbl4 := hmid.2.2.2; obtain ⟨a0, a1, a2, a3, a4, a5, a6⟩ := hC.out.after (hbW.trans (hbl4.mono hbW.size)) hbb; dsimp only at a0 a1 a2 a3 a4 a5 a6; have t0 : w4.cell? ⟨W.heap.size, 0, none⟩ = some (.int .i64 tp) := (K0.out.after hbl4).cell 0 rfl; have t1 : w4.cell? ⟨W.heap.size, 1, none⟩ = some (.int .i64 tc) := (K0.out.after hbl4).cell 1 rfl; have t2 : w4.cell? ⟨W.heap.size, 2, none⟩ = some (.int .i64 ta) := (K0.out.after hbl4).cell 2 rfl; have b0 : w4.cell? ⟨wa.heap.size, 0, none⟩ = some (.slice (ax) xs.length cx) := (K1.out.after hbl4).cell 0 rfl; have b1 : w4.cell? ⟨wa.heap.size, 1, none⟩ = some (.slice (some ⟨b, o, none⟩) ys.length cy) := (K1.out.after hbl4).cell 1 rfl; have z4 := hbl4.size; have HMID := Lib.hid hmid; clear hmid))
                clear a0 a1 a2 a3 a4 a5 a6 t0 t1 t2 b0 b1
                have hfin : ∀ n, SumRel ⟨tp, tc, ta⟩ wb (xs ++ ys.take (j + 1)) _ _ (w4.drewN n) := fun n => by rw [hT.out]; exact HMID.out.no (below_draws w4 n) (show ¬ Six.tag _ = _ from HT.out)
                go_roundw
                case rel => exact ⟨j + 1, by omega, by go_num, fun e he => by
                  rw [hT.out] at he
                  rcases List.mem_append.1 he with he | he
                  · exact HFW.out e he
                  · obtain rfl := List.mem_singleton.1 he
                    exact hf, hfin _⟩
                case measure => simp [intOf]; omega
            · rw [decide_eq_false hf] at hfew
              have HF := Lib.hid hfew
              clear hfew
              with_reducible refine HF.out.mono ?_
              rintro e w1 ⟨rfl, hb1⟩
              have hb1' : Below wb.heap.size wb w1 := hbl.trans (hb1.mono hbl.size)
              go_wp2_with fail
              with_reducible refine (awake_ok _ (HR.out.after hb1')).mono ?_
              rintro e w9 ⟨rfl, hb9⟩
              go_wp2_with fail
              go_ret
              exact ⟨rfl, hbW.trans ((hb1'.trans (hb9.mono hb1'.size)).mono hbW.size)⟩
          · obtain rfl : j = ys.length := by omega
            rw [List.take_length] at hfew o7 o8
            have HSR : Hid (SumRel ⟨tp, tc, ta⟩ wb (xs ++ ys) _ _ wr) := ⟨o7, o8, hap, hbl⟩
            have HFW := Lib.hid hfew
            clear o7 o8 hap hfew
            have t0 : wr.cell? ⟨W.heap.size, 0, none⟩ = some (.int .i64 tp) := (K0.out.after (hbl)).cell 0 rfl
            have t1 : wr.cell? ⟨W.heap.size, 1, none⟩ = some (.int .i64 tc) := (K0.out.after (hbl)).cell 1 rfl
            have t2 : wr.cell? ⟨W.heap.size, 2, none⟩ = some (.int .i64 ta) := (K0.out.after (hbl)).cell 2 rfl
            have b0 : wr.cell? ⟨wa.heap.size, 0, none⟩ = some (.slice (ax) xs.length cx) := (K1.out.after (hbl)).cell 0 rfl
            have b1 : wr.cell? ⟨wa.heap.size, 1, none⟩ = some (.slice (ay) ys.length cy) := (K1.out.after (hbl)).cell 1 rfl
            go_wp2_with fail
            clear t0 t1 t2 b0 b1
            go_roundw
            case rel => exact ⟨xs ++ ys, .inr (.inr ⟨rfl, rfl, hx6, h6⟩), HFW.out, HSR.out⟩
            case measure => simp [intOf]
      · have h6' : decide (6 < (ys.length : Int)) = true := by rw [decide_eq_true_iff]; omega
        have h7' : decide (6 < ys.length) = true := by rw [decide_eq_true_iff]; omega
        go_wp2_with fail
        clear t0 t1 t2 b0 b1
        go_wp2_with fail
        with_reducible refine (awake_ok _ (HR.out.after hbl)).mono ?_
        rintro e w9 ⟨rfl, hb9⟩
        go_wp2_with fail
        go_ret
        exact ⟨rfl, hbW.trans ((hbl.trans (hb9.mono hbl.size)).mono hbW.size)⟩
    · obtain ⟨o7, o8, hap, hbl⟩ := hsum
      have hend : Below W.heap.size W wr := hbW.trans (hbl.mono hbW.size)
      have EX : EnsAt wr ax xs := (HX.out.after hend).few fun e he => hfew e (List.mem_append_left _ he)
      have EY : EnsAt wr ay ys := (HY.out.after hend).few fun e he => hfew e (List.mem_append_right _ he)
      obtain ⟨a7, c7, rfl, _, _, _, _, r7⟩ := owned_rows (f := En.row (xs ++ ys)) (fun i => rfl) o7
      obtain ⟨a8, c8, rfl, _, _, _, _, r8⟩ := owned_rows (f := En.row (ownOf ⟨tp, tc, ta⟩ (xs ++ ys))) (fun i => rfl) o8
      have hall : ∀ e ∈ xs ++ ys, EnOk wr e := fun e he => by
        rcases List.mem_append.1 he with h | h
        · exact EX.mem h
        · exact EY.mem h
      have E7 : EnsAt wr a7 (xs ++ ys) := ⟨r7, fun i hi => hall _ (at_memE hi)⟩
      have E8 : EnsAt wr a8 (ownOf ⟨tp, tc, ta⟩ (xs ++ ys)) := ⟨r8, fun i hi => hall _ (List.mem_filter.1 (at_memE hi)).1⟩
      have l7 : (xs ++ ys).length ≤ 1000 := by rw [List.length_append]; omega
      have l8 := own_len ⟨tp, tc, ta⟩ (xs ++ ys)
      have hT1 := total_ok ⟨tp, tc, ta⟩ party ax cx xs wr EX (by omega)
      have hT2 : ∀ w', Below wr.heap.size wr w' → _ := fun w' hw' => total_ok ⟨tp, tc, ta⟩ party ay cy ys w' (EY.after hw') (by omega)
      have hT3 : ∀ w', Below wr.heap.size wr w' → _ := fun w' hw' => total_ok ⟨tp, tc, ta⟩ party a7 c7 (xs ++ ys) w' (E7.after hw') l7
      have hT4 : ∀ w', Below wr.heap.size wr w' → _ := fun w' hw' => total_ok ⟨tp, tc, ta⟩ party a8 c8 (ownOf ⟨tp, tc, ta⟩ (xs ++ ys)) w' (E8.after hw') (by omega)
      rw [totK_own] at hT4
      rw [totK_append, sum_app] at hT3 hT4
      obtain ⟨S, hS⟩ : ∃ S, (totK ⟨tp, tc, ta⟩ party xs xs.length).sum = S := ⟨_, rfl⟩
      obtain ⟨T, hT⟩ : ∃ S, (totK ⟨tp, tc, ta⟩ party ys ys.length).sum = S := ⟨_, rfl⟩
      rw [hS] at hT1 hT3 hT4
      rw [hT] at hT2 hT3 hT4
      clear hS hT E7 E8 EX EY r7 r8 o7 o8 hap hall hfew
      unfold Ln.v at hT1 hT2 hT3 hT4
      simp only [List.length_append] at hT3
      rcases fits_cases (S + T) with ⟨hf3, g1, g2⟩ | hf3 <;> cases hf1 : fitsI S <;> cases hf2 : fitsI T
      all_goals
        rw [sumA_of hf1] at hT1
        rw [sumA_of hf2] at hT2
        rw [sumA_of hf3] at hT3 hT4
        have HT1 := Lib.hid hT1
        have HT2 := Lib.hid hT2
        have HT3 := Lib.hid hT3
        have HT4 := Lib.hid hT4
        have HF3 := Lib.hid hf3
        clear hT1 hT2 hT3 hT4 hf1 hf2 hf3
        dsimp only [sumV] at HT1 HT2 HT3 HT4
        have t0 : wr.cell? ⟨W.heap.size, 0, none⟩ = some (.int .i64 tp) := (K0.out.after (hbl)).cell 0 rfl
        have t1 : wr.cell? ⟨W.heap.size, 1, none⟩ = some (.int .i64 tc) := (K0.out.after (hbl)).cell 1 rfl
        have t2 : wr.cell? ⟨W.heap.size, 2, none⟩ = some (.int .i64 ta) := (K0.out.after (hbl)).cell 2 rfl
        have b0 : wr.cell? ⟨wa.heap.size, 0, none⟩ = some (.slice (ax) xs.length cx) := (K1.out.after (hbl)).cell 0 rfl
        have b1 : wr.cell? ⟨wa.heap.size, 1, none⟩ = some (.slice (ay) ys.length cy) := (K1.out.after (hbl)).cell 1 rfl
        go_wp2_with fail
        clear t0 t1 t2 b0 b1
        with_reducible refine HT1.out.mono ?_
        rintro e w1 ⟨rfl, hb1⟩
        have hc1 := hbl.trans (hb1.mono hbl.size)
        have t0 : w1.cell? ⟨W.heap.size, 0, none⟩ = some (.int .i64 tp) := (K0.out.after (hc1)).cell 0 rfl
        have t1 : w1.cell? ⟨W.heap.size, 1, none⟩ = some (.int .i64 tc) := (K0.out.after (hc1)).cell 1 rfl
        have t2 : w1.cell? ⟨W.heap.size, 2, none⟩ = some (.int .i64 ta) := (K0.out.after (hc1)).cell 2 rfl
        have b0 : w1.cell? ⟨wa.heap.size, 0, none⟩ = some (.slice (ax) xs.length cx) := (K1.out.after (hc1)).cell 0 rfl
        have b1 : w1.cell? ⟨wa.heap.size, 1, none⟩ = some (.slice (ay) ys.length cy) := (K1.out.after (hc1)).cell 1 rfl
        go_wp2_with fail
        clear t0 t1 t2 b0 b1
        with_reducible refine (HT2.out _ hb1).mono ?_
        rintro e w2 ⟨rfl, hb2⟩
        replace hb2 := hb1.trans (hb2.mono hb1.size)
        have hc2 := hbl.trans (hb2.mono hbl.size)
        have t0 : w2.cell? ⟨W.heap.size, 0, none⟩ = some (.int .i64 tp) := (K0.out.after (hc2)).cell 0 rfl
        have t1 : w2.cell? ⟨W.heap.size, 1, none⟩ = some (.int .i64 tc) := (K0.out.after (hc2)).cell 1 rfl
        have t2 : w2.cell? ⟨W.heap.size, 2, none⟩ = some (.int .i64 ta) := (K0.out.after (hc2)).cell 2 rfl
        have b0 : w2.cell? ⟨wa.heap.size, 0, none⟩ = some (.slice (ax) xs.length cx) := (K1.out.after (hc2)).cell 0 rfl
        have b1 : w2.cell? ⟨wa.heap.size, 1, none⟩ = some (.slice (ay) ys.length cy) := (K1.out.after (hc2)).cell 1 rfl
        go_wp2_with fail
        clear t0 t1 t2 b0 b1
        with_reducible refine (HT3.out _ hb2).mono ?_
        rintro e w3 ⟨rfl, hb3⟩
        replace hb3 := hb2.trans (hb3.mono hb2.size)
        have hc3 := hbl.trans (hb3.mono hbl.size)
        have t0 : w3.cell? ⟨W.heap.size, 0, none⟩ = some (.int .i64 tp) := (K0.out.after (hc3)).cell 0 rfl
        have t1 : w3.cell? ⟨W.heap.size, 1, none⟩ = some (.int .i64 tc) := (K0.out.after (hc3)).cell 1 rfl
        have t2 : w3.cell? ⟨W.heap.size, 2, none⟩ = some (.int .i64 ta) := (K0.out.after (hc3)).cell 2 rfl
        have b0 : w3.cell? ⟨wa.heap.size, 0, none⟩ = some (.slice (ax) xs.length cx) := (K1.out.after (hc3)).cell 0 rfl
        have b1 : w3.cell? ⟨wa.heap.size, 1, none⟩ = some (.slice (ay) ys.length cy) := (K1.out.after (hc3)).cell 1 rfl
        go_wp2_with fail
        clear t0 t1 t2 b0 b1
        with_reducible refine (HT4.out _ hb3).mono ?_
        rintro e w4 ⟨rfl, hb4⟩
        replace hb4 := hb3.trans (hb4.mono hb3.size)
        have hc4 := hbl.trans (hb4.mono hbl.size)
        go_wp2_with fail
        with_reducible refine (awake_ok _ (HR.out.after hc4)).mono ?_
        rintro e w9 ⟨rfl, hb9⟩
        go_wp2_with fail
        go_ret
        exact ⟨rfl, hbW.trans ((hc4.trans (hb9.mono hc4.size)).mono hbW.size)⟩

end Go.Proofs.YtklbgcpafbjekaaDoor
