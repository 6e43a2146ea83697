/- The statement LedgerNil: its walk. -/
import Derived.Test.YtpinhomalmknjaaDoorLgO
import Derived.Test.YtpinhomalmknjaaDoorLgI
namespace Go.Proofs.YtpinhomalmknjaaDoor
open Go.RowKit Go.Sort Go.Shelf
set_option linter.unusedVariables false
set_option linter.unusedSimpArgs false
set_option maxRecDepth 100000

theorem SeqAEnd.list {w w' : World} {E : List En} {e : Ending} (h : SeqAEnd w E e w') (hl : E.length ≤ 200) : ∃ Bc, e = .returned (.func (.func 50) #[] #[.pointer (some ⟨Bc, 0, none⟩)]) ∧ Below w.heap.size w w' ∧
    Calls Tryd.prog 23 #[.func (.func 50) #[] #[.pointer (some ⟨Bc, 0, none⟩)]] w' (ListEnd w' (idxP (E.map En.p))) := by
  obtain ⟨Bc, rfl, hb, ht⟩ := h.tells (by omega)
  exact ⟨Bc, rfl, hb, list_any 50 _ E.length _ _ w' hl (fun args w => by kernel_rfl) (fun w0 h0 => ht w0 4 (by omega) h0)⟩
theorem SeqLEnd.list {w w' : World} {E : List En} {con : Int} {e : Ending} (h : SeqLEnd w E con e w') (hl : E.length ≤ 200) : ∃ Bc Bk, e = .returned (.func (.func 51) #[] #[.pointer (some ⟨Bc, 0, none⟩), .pointer (some ⟨Bk, 0, none⟩)]) ∧ Below w.heap.size w w' ∧
    Calls Tryd.prog 23 #[.func (.func 51) #[] #[.pointer (some ⟨Bc, 0, none⟩), .pointer (some ⟨Bk, 0, none⟩)]] w' (ListEnd w' (liveP (E.map En.p) con)) := by
  obtain ⟨Bc, Bk, rfl, ⟨pv, hA⟩, hk, hb, hln⟩ := h
  have hz := hb.size
  refine ⟨Bc, Bk, rfl, hb, list_any 51 _ E.length _ _ w' hl (fun args w => by kernel_rfl) (fun w0 h0 => live_tells 4 (by omega) w'.heap.size Bc Bk E con (by omega) (fun e he x hx hl => Nat.lt_of_lt_of_le (hln e he x hx hl) hz) w0 ⟨pv, fun W hW => hA W (h0.trans hW)⟩ (fun W hW => hk W (h0.trans hW)) h0.size)⟩

set_option maxHeartbeats 16000000 in
theorem walk_LedgerNil (w : World) (hR : RulesAt w) (o : Opc) (ho : OpIn w o) (no : Int) (hno : (Lit.int .i64 no).wf = true) :
    Calls Tryd.prog 4 #[.agg #[.int .i64 o.p, .int .i64 o.s, .bool o.k, .slice o.a o.es.length o.cap], .int .i64 no] w (TrueEnd w) := by
  obtain ⟨op, os, ok, oa, ocap, oes⟩ := o
  dsimp only
  obtain ⟨wa, hwa⟩ : ∃ wa, w.alloc (.cells #[.int .i64 op, .int .i64 os, .bool ok, .slice oa oes.length ocap] 44) = wa := ⟨_, rfl⟩
  have ba : Below w.heap.size w wa := by rw [← hwa]; exact (Below.refl _ _).alloc (Nat.le_refl _) _
  have ka : Blk wa w.heap.size #[.int .i64 op, .int .i64 os, .bool ok, .slice oa oes.length ocap] 44 := by rw [← hwa]; exact Blk.new _ _ _
  obtain ⟨wb, hwb⟩ : ∃ wb, wa.alloc (.cells #[.int .i64 op, .int .i64 os, .bool ok, .slice oa oes.length ocap] 44) = wb := ⟨_, rfl⟩
  have bb : Below wa.heap.size wa wb := by rw [← hwb]; exact (Below.refl _ _).alloc (Nat.le_refl _) _
  have kb : Blk wb wa.heap.size #[.int .i64 op, .int .i64 os, .bool ok, .slice oa oes.length ocap] 44 := by rw [← hwb]; exact Blk.new _ _ _
  have hbW : Below w.heap.size w wb := ba.trans (bb.mono ba.size)
  have HOps : OpsIn wb (some ⟨wa.heap.size, 0, none⟩) [⟨op, os, ok, oa, ocap, oes⟩] := by
    refine ⟨fun _ => ⟨wa.heap.size, 0, rfl, fun i hi j v hv => ?_⟩, fun i hi => ?_⟩
    · obtain rfl : i = 0 := by simpa using hi
      have hv' : (Opc.cs ⟨op, os, ok, oa, ocap, oes⟩)[j]? = some v := hv
      have := kb.cell j (v := v) (by simpa [Opc.cs] using hv')
      simpa using this
    · obtain rfl : i = 0 := by simpa using hi
      exact ho.after hbW
  have HF : Hid (Calls Tryd.prog 9 #[.slice (some ⟨wa.heap.size, 0, none⟩) 1 1] wb (FewEnd wb [⟨op, os, ok, oa, ocap, oes⟩])) := Lib.hid (few15 (some ⟨wa.heap.size, 0, none⟩) 1 [⟨op, os, ok, oa, ocap, oes⟩] wb HOps (by unfold maxLen; simp))
  have KB := Lib.hid kb
  have KA := Lib.hid (ka.after bb)
  have HB := Lib.hid hbW
  have HR := Lib.hid hR
  have e0 : wa.cell? ⟨w.heap.size, 0, none⟩ = some (.int .i64 op) := ka.cell 0 rfl
  have e1 : wa.cell? ⟨w.heap.size, 1, none⟩ = some (.int .i64 os) := ka.cell 1 rfl
  have e2 : wa.cell? ⟨w.heap.size, 2, none⟩ = some (.bool ok) := ka.cell 2 rfl
  have e3 : wa.cell? ⟨w.heap.size, 3, none⟩ = some (.slice oa oes.length ocap) := ka.cell 3 rfl
  have HWB := Lib.hid hwb
  clear hR ka kb ba bb hbW HOps ho hwb
  go_enter Tryd.func4, Tryd.ntmps4
  go_wp2_with fail
  clear e0 e1 e2 e3
  rw [HWB.out]
  with_reducible refine HF.out.mono ?_
  rintro e w1 ⟨b, rfl, -, hb1⟩
  have HB1 := Lib.hid (HB.out.trans (hb1.mono HB.out.size))
  have HK1 := Lib.hid (KA.out.after hb1)
  clear hb1 KA KB HB HF
  cases b
  · go_wp2_with fail
    with_reducible refine (awake15 w1 (HR.out.after HB1.out)).mono ?_
    rintro e w2 ⟨rfl, hb2⟩
    go_wp2_with fail
    go_ret
    exact ⟨rfl, HB1.out.trans (hb2.mono HB1.out.size)⟩
  have hw1 : 0 < w.heap.size := World.block_lt_of_cell? w _ HR.out.r0
  go_wp2_with fail
  with_reducible refine (pnew_ok 30 w1 (by omega) (by omega)).mono ?_
  rintro e w2 ⟨pb, ps, rfl, -, hb2, -, -⟩
  have HB2 := Lib.hid (HB1.out.trans (hb2.mono HB1.out.size))
  have HK2 := Lib.hid (HK1.out.after hb2)
  clear hb2 HK1 HB1
  go_wp2_with fail
  with_reducible refine (lnew_ok w2).mono ?_
  rintro e w3 ⟨lp, lbm, la, lc, rfl, -, hb3, -, -⟩
  have HB3 := Lib.hid (HB2.out.trans (hb3.mono HB2.out.size))
  have HK3 := Lib.hid (HK2.out.after hb3)
  have e0 : w3.cell? ⟨w.heap.size, 0, none⟩ = some (.int .i64 op) := HK3.out.cell 0 rfl
  have e1 : w3.cell? ⟨w.heap.size, 1, none⟩ = some (.int .i64 os) := HK3.out.cell 1 rfl
  have e2 : w3.cell? ⟨w.heap.size, 2, none⟩ = some (.bool ok) := HK3.out.cell 2 rfl
  have e3 : w3.cell? ⟨w.heap.size, 3, none⟩ = some (.slice oa oes.length ocap) := HK3.out.cell 3 rfl
  clear hb3 HK2 HK3 HB2
  go_wp2_with fail
  clear e0 e1 e2 e3
  with_reducible refine (lpost_nil op os (.pointer (some ⟨pb, 0, none⟩)) (.inr ⟨pb, rfl⟩) oa oes.length ocap w3).mono ?_
  rintro e w4 ⟨rfl, hw4⟩
  obtain rfl : w3 = w4 := hw4.symm
  go_wp2_with fail
  with_reducible refine (lent_nil no w3).mono ?_
  rintro e w4 ⟨rfl, hb4⟩
  dsimp only [entV, zero6]
  obtain ⟨w5, hw5⟩ : ∃ W, w4.alloc (.cells #[.int .i64 0, .int .i64 0, .int .i64 0, .int .i64 0, .int .i64 0, .int .i64 0, .slice none 0 0] 27) = W := ⟨_, rfl⟩
  have hb5 : Below w4.heap.size w4 w5 := by rw [← hw5]; exact (Below.refl _ _).alloc (Nat.le_refl _) _
  have k5 : Blk w5 w4.heap.size #[.int .i64 0, .int .i64 0, .int .i64 0, .int .i64 0, .int .i64 0, .int .i64 0, .slice none 0 0] 27 := by rw [← hw5]; exact Blk.new _ _ _
  have HB5 := Lib.hid (HB3.out.trans ((hb4.trans (hb5.mono hb4.size)).mono HB3.out.size))
  have HK5 := Lib.hid k5
  have HW5 := Lib.hid hw5
  clear hw5 hb5 k5 hb4 HB3
  go_wp2_with fail
  rw [HW5.out]
  with_reducible refine (lrev_nil no w5).mono ?_
  rintro e w6 ⟨rfl, hw6⟩
  obtain rfl : w5 = w6 := hw6.symm
  dsimp only [Option.isSome]
  clear HW5
  go_wp2_with fail
  with_reducible refine (lbal_nil no 0 9 w5).mono ?_
  rintro e w6 ⟨rfl, hb6⟩
  go_wp2_with fail
  with_reducible refine (lper_nil no 0 0 w6).mono ?_
  rintro e w7 ⟨rfl, hb7⟩
  go_wp2_with fail
  with_reducible refine (ltot_nil 0 0 0 no w7).mono ?_
  rintro e w8 ⟨rfl, hb8⟩
  have hb58 := hb6.trans ((hb7.trans (hb8.mono hb7.size)).mono hb6.size)
  have HB8 := Lib.hid (HB5.out.trans (hb58.mono HB5.out.size))
  have HK8 := Lib.hid (HK5.out.after hb58)
  clear hb6 hb7 hb8 hb58 HB5 HK5
  go_wp2_with fail
  with_reducible refine (lall_nil w8).mono ?_
  rintro e w9 hA
  obtain ⟨Bc, rfl, hb9, hLi⟩ := hA.list (by simp)
  have HLi := Lib.hid hLi
  clear hA hLi
  go_wp2_with fail
  with_reducible refine HLi.out.mono ?_
  rintro e w10 ⟨an, cn, ae, ce, zs, -, rfl, -, -, -, hb10, -⟩
  dsimp only [List.map_nil, idxP, List.zipIdx_nil, List.length_nil]
  have hb810 := hb9.trans (hb10.mono hb9.size)
  have HB10 := Lib.hid (HB8.out.trans (hb810.mono HB8.out.size))
  have HK10 := Lib.hid (HK8.out.after hb810)
  clear hb9 hb10 hb810 HB8 HK8 HLi
  go_wp2_with fail
  with_reducible refine (llive_nil no w10).mono ?_
  rintro e w11 hA
  obtain ⟨Bd, Bk, rfl, hb11, hLi⟩ := hA.list (by simp)
  have HLi := Lib.hid hLi
  clear hA hLi
  go_wp2_with fail
  with_reducible refine HLi.out.mono ?_
  rintro e w12 ⟨am, cm, af, cf, zt, -, rfl, -, -, -, hb12, -⟩
  dsimp only [List.map_nil, liveP, idxP, List.zipIdx_nil, List.filter_nil, List.length_nil]
  have hb1012 := hb11.trans (hb12.mono hb11.size)
  have HB12 := Lib.hid (HB10.out.trans (hb1012.mono HB10.out.size))
  have HK12 := Lib.hid (HK10.out.after hb1012)
  clear hb11 hb12 hb1012 HB10 HK10 HLi
  go_wp2_with fail
  with_reducible refine (lpost_noper lp 0 0 none 0 0 w12).mono ?_
  rintro e w13 ⟨rfl, hw13⟩
  obtain rfl : w12 = w13 := hw13.symm
  have f0 : w12.cell? ⟨w4.heap.size, 0, none⟩ = some (.int .i64 0) := HK12.out.cell 0 rfl
  have f1 : w12.cell? ⟨w4.heap.size, 1, none⟩ = some (.int .i64 0) := HK12.out.cell 1 rfl
  have f2 : w12.cell? ⟨w4.heap.size, 2, none⟩ = some (.int .i64 0) := HK12.out.cell 2 rfl
  have f3 : w12.cell? ⟨w4.heap.size, 3, none⟩ = some (.int .i64 0) := HK12.out.cell 3 rfl
  have f4 : w12.cell? ⟨w4.heap.size, 4, none⟩ = some (.int .i64 0) := HK12.out.cell 4 rfl
  have f5 : w12.cell? ⟨w4.heap.size, 5, none⟩ = some (.int .i64 0) := HK12.out.cell 5 rfl
  have f6 : w12.cell? ⟨w4.heap.size, 6, none⟩ = some (.slice none 0 0) := HK12.out.cell 6 rfl
  clear HK12
  go_wp2_with fail
  clear f0 f1 f2 f3 f4 f5 f6
  have hs := same_zero w12
  dsimp only [entV, zero6] at hs
  have HS := Lib.hid hs
  clear hs
  with_reducible refine HS.out.mono ?_
  rintro e w13 ⟨rfl, hb13⟩
  have HB13 := Lib.hid (HB12.out.trans (hb13.mono HB12.out.size))
  clear hb13 HB12 HS
  go_wp2_with fail
  with_reducible refine (llen_nil w13).mono ?_
  rintro e w14 ⟨rfl, hw14⟩
  obtain rfl : w13 = w14 := hw14.symm
  go_wp2_with fail
  with_reducible refine (lseq_nil w13).mono ?_
  rintro e w14 ⟨rfl, hw14⟩
  obtain rfl : w13 = w14 := hw14.symm
  go_wp2_with fail
  with_reducible refine (lcopy_nil w13).mono ?_
  rintro e w14 ⟨rfl, hw14⟩
  obtain rfl : w13 = w14 := hw14.symm
  go_wp2_with fail
  with_reducible refine (awake15 w13 (HR.out.after HB13.out)).mono ?_
  rintro e w14 ⟨rfl, hb14⟩
  go_wp2_with fail
  go_ret
  exact ⟨rfl, HB13.out.trans (hb14.mono HB13.out.size)⟩

end Go.Proofs.YtpinhomalmknjaaDoor
