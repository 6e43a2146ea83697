/- What the laid table of rules gives the walks; and that the program's own start meets it. -/
import Derived.Test.YtpinhomalmknjaaDoorEntC
import Derived.Test.YtpinhomalmknjaaDoorTie
import Derived.LaidMore
import Derived.LaidHandle
import Derived.Stop.Joined
import Derived.OpenShut
import Derived.Test.YtpinhomalmknjaaDoorLqA
namespace Go.Proofs.YtpinhomalmknjaaDoor
open Go.ChangeShapes Go.WideShapes Go.ChangeAt Go.RowKit
set_option linter.unusedVariables false
set_option maxRecDepth 100000

theorem gRules : Tryd.prog.globalNamed "chattel/entry.rules" = some 0 := by kernel_rfl
theorem tRules : (Tryd.prog.globals[0]?).map (·.type) = some 118 := by kernel_rfl

theorem rule_of {W : World} {sp : Nat → Bool} {fuel : Nat} {cs : List Value} {b : UInt8} {r : List UInt8} {n : Int} {q : List MemPlace} {f0 : FuncId}
    (hone : ((List.range Tryd.prog.funcs.size).filter fun f => (Tryd.prog.funcs[f]?).any (·.name.toUTF8.data.toList == b :: r)) = [f0])
    (h : DataW.trod (funcToken Tryd.prog) Tryd.prog W 0 sp true fuel 117 cs = some (.agg [.held (b :: r), .lit (.int .i64 n)], q)) :
    cs = [.func (.func f0) #[] #[], .int .i64 n] := by
  obtain ⟨xs, m, _, hx, hlen, hxl, hf⟩ := DataW.trod_struct Tryd.underlying117 h
  simp only [Prod.mk.injEq, DataW.agg.injEq] at hx
  rw [show Tryd.prog.cellsOf 117 = 2 by kernel_rfl] at hlen
  obtain ⟨c0, c1, rfl⟩ : ∃ c0 c1, cs = [c0, c1] := by
    match cs, hlen with
    | [c0, c1], _ => exact ⟨c0, c1, rfl⟩
  obtain ⟨x0, x1, rfl⟩ : ∃ x0 x1, xs = [x0, x1] := by
    have := hx.1
    match xs, this with
    | [x0, x1], _ => exact ⟨x0, x1, rfl⟩
    | [], h => simp at h
    | [_], h => simp at h
    | _ :: _ :: _ :: _, h => simp at h
  obtain ⟨d0, p0⟩ := x0
  obtain ⟨d1, p1⟩ := x1
  simp only [List.map_cons, List.map_nil, List.cons.injEq, and_true] at hx
  obtain ⟨⟨rfl, rfl⟩, _⟩ := hx
  have h0 := hf 0 _ rfl
  have h1 := hf 1 _ rfl
  have g0 : DataW.trod (funcToken Tryd.prog) Tryd.prog W 0 sp true m 29 [c0] = some (.held (b :: r), p0) := by
    rw [← show ([((DataW.held (b :: r) : DataW (List UInt8)), p0), (DataW.lit (.int .i64 n), p1)])[0]? = some (.held (b :: r), p0) from rfl, ← h0]
    rw [show Tryd.prog.cellsOf (Field.type _) = 1 from by kernel_rfl]
    rfl
  have g1 : DataW.trod (funcToken Tryd.prog) Tryd.prog W 0 sp true m 34 [c1] = some (.lit (.int .i64 n), p1) := by
    rw [← show ([((DataW.held (b :: r) : DataW (List UInt8)), p0), (DataW.lit (.int .i64 n), p1)])[1]? = some (.lit (.int .i64 n), p1) from rfl, ← h1]
    rw [show Tryd.prog.cellsOf (Field.type _) = 1 from by kernel_rfl]
    rfl
  obtain rfl := func_of_trod (f0 := f0) Tryd.underlying29 hone g0
  obtain ⟨k, hk, hk2, _⟩ := DataW.trod_int Tryd.underlying34 g1
  simp only [List.cons.injEq, and_true] at hk
  subst hk
  simp only [Prod.mk.injEq, DataW.lit.injEq, Lit.int.injEq, true_and] at hk2
  rw [hk2.1]

theorem of_laid {W : World} (h : laidMetH Tryd.prog [("chattel/entry.rules", Rows.laid_chattel_entry_rules)] W) : RulesAt W := by
  obtain ⟨g, t, cs, fuel, p, hg, ht, hv, hd⟩ := h.funcs (List.mem_singleton.2 rfl)
  obtain rfl := Option.some.inj (gRules.symm.trans hg)
  obtain rfl := Option.some.inj (tRules.symm.trans ht)
  have hd' : DataW.trod (funcToken Tryd.prog) Tryd.prog W 0 (fun _ => true) true fuel 118 cs.toList = some (.agg [.agg [.held [40, 99, 104, 97, 116, 116, 101, 108, 47, 101, 110, 116, 114, 121, 46, 69, 110, 116, 114, 121, 41, 46, 114, 97, 110, 103, 101, 115], .lit (.int .i64 10)], .agg [.held [40, 99, 104, 97, 116, 116, 101, 108, 47, 101, 110, 116, 114, 121, 46, 69, 110, 116, 114, 121, 41, 46, 108, 105, 110, 101, 115], .lit (.int .i64 1)], .agg [.held [40, 99, 104, 97, 116, 116, 101, 108, 47, 101, 110, 116, 114, 121, 46, 69, 110, 116, 114, 121, 41, 46, 115, 111, 109, 101], .lit (.int .i64 12)], .agg [.held [40, 99, 104, 97, 116, 116, 101, 108, 47, 101, 110, 116, 114, 121, 46, 69, 110, 116, 114, 121, 41, 46, 102, 105, 116, 115], .lit (.int .i64 11)], .agg [.held [40, 99, 104, 97, 116, 116, 101, 108, 47, 101, 110, 116, 114, 121, 46, 69, 110, 116, 114, 121, 41, 46, 101, 118, 101, 110], .lit (.int .i64 20)]], p) := hd
  obtain ⟨xs, m, _, hx, hlen, hxl, hel⟩ := DataW.trod_array Tryd.underlying118 hd'
  simp only [Prod.mk.injEq, DataW.agg.injEq] at hx
  rw [show Tryd.prog.cellsOf 118 = 10 by kernel_rfl] at hlen
  rw [show Tryd.prog.cellsOf 117 = 2 by kernel_rfl] at hel
  have hget : ∀ (i : Nat) (d : DataW (List UInt8)), ([.agg [.held [40, 99, 104, 97, 116, 116, 101, 108, 47, 101, 110, 116, 114, 121, 46, 69, 110, 116, 114, 121, 41, 46, 114, 97, 110, 103, 101, 115], .lit (.int .i64 10)], .agg [.held [40, 99, 104, 97, 116, 116, 101, 108, 47, 101, 110, 116, 114, 121, 46, 69, 110, 116, 114, 121, 41, 46, 108, 105, 110, 101, 115], .lit (.int .i64 1)], .agg [.held [40, 99, 104, 97, 116, 116, 101, 108, 47, 101, 110, 116, 114, 121, 46, 69, 110, 116, 114, 121, 41, 46, 115, 111, 109, 101], .lit (.int .i64 12)], .agg [.held [40, 99, 104, 97, 116, 116, 101, 108, 47, 101, 110, 116, 114, 121, 46, 69, 110, 116, 114, 121, 41, 46, 102, 105, 116, 115], .lit (.int .i64 11)], .agg [.held [40, 99, 104, 97, 116, 116, 101, 108, 47, 101, 110, 116, 114, 121, 46, 69, 110, 116, 114, 121, 41, 46, 101, 118, 101, 110], .lit (.int .i64 20)]] : List (DataW (List UInt8)))[i]? = some d → i < 5 → ∃ q, DataW.trod (funcToken Tryd.prog) Tryd.prog W 0 (fun _ => true) true m 117 ((cs.toList.drop (i * 2)).take 2) = some (d, q) := fun i d hi h5 => by
    rw [hx.1, List.getElem?_map] at hi
    obtain ⟨x, hx1, hx2⟩ := Option.map_eq_some_iff.1 hi
    exact ⟨x.2, by rw [hel i h5, hx1, ← hx2]⟩
  obtain ⟨q0, e0⟩ := hget 0 _ rfl (by omega)
  have r0 := rule_of (f0 := 100) (by kernel_rfl) e0
  obtain ⟨q1, e1⟩ := hget 1 _ rfl (by omega)
  have r1 := rule_of (f0 := 101) (by kernel_rfl) e1
  obtain ⟨q2, e2⟩ := hget 2 _ rfl (by omega)
  have r2 := rule_of (f0 := 102) (by kernel_rfl) e2
  obtain ⟨q3, e3⟩ := hget 3 _ rfl (by omega)
  have r3 := rule_of (f0 := 103) (by kernel_rfl) e3
  obtain ⟨q4, e4⟩ := hget 4 _ rfl (by omega)
  have r4 := rule_of (f0 := 96) (by kernel_rfl) e4
  have hc := World.var?_cell hg hv
  have hd2 : ∀ (i : Nat) (c0 c1 : Value), (cs.toList.drop (i * 2)).take 2 = [c0, c1] → cs[i * 2]? = some c0 ∧ cs[i * 2 + 1]? = some c1 := fun i c0 c1 h => by
    have a0 : ((cs.toList.drop (i * 2)).take 2)[0]? = some c0 := by rw [h]; rfl
    have a1 : ((cs.toList.drop (i * 2)).take 2)[1]? = some c1 := by rw [h]; rfl
    rw [List.getElem?_take, if_pos (by omega), List.getElem?_drop] at a0 a1
    exact ⟨by simpa using a0, by simpa using a1⟩
  exact ⟨(hc 0).trans (hd2 0 _ _ r0).1, (hc 1).trans (hd2 0 _ _ r0).2, (hc 2).trans (hd2 1 _ _ r1).1, (hc 3).trans (hd2 1 _ _ r1).2, (hc 4).trans (hd2 2 _ _ r2).1, (hc 5).trans (hd2 2 _ _ r2).2, (hc 6).trans (hd2 3 _ _ r3).1, (hc 7).trans (hd2 3 _ _ r3).2, (hc 8).trans (hd2 4 _ _ r4).1, (hc 9).trans (hd2 4 _ _ r4).2⟩

/-- The program's own start meets the condition. -/
theorem door_met (os : Os) (args : Array Value) : laidMetH Tryd.prog [("chattel/entry.rules", Rows.laid_chattel_entry_rules)] ((World.doorLaid Tryd.prog 600 os).forCall (fun _ _ => 0) ⟨#[], args, []⟩).memory :=
  laidMetH_of_parts3 (fuel := 8) (laidMet_of_run' 8 (by kernel_rfl) (by kernel_rfl)) (by kernel_rfl) (by kernel_rfl)
end Go.Proofs.YtpinhomalmknjaaDoor
/- Is a ledger the document's?: same, walked. -/
namespace Go.Proofs.YtpinhomalmknjaaDoor
open Go.RowKit Go.Sort Go.Shelf
set_option linter.unusedVariables false
set_option linter.unusedSimpArgs false
set_option maxRecDepth 100000

set_option maxHeartbeats 200000000 in
theorem same_ok15 (p q : Nat) (ra : Option Addr) (rc n : Nat) (L : List EnP) (R : List En) (w : World) (h : SmS w p q ra rc n L R) :
    Calls Tryd.prog 35 #[.pointer (some ⟨p, 0, none⟩), .pointer (some ⟨q, 0, none⟩)] w (TrueEnd w) := by
  have H := Lib.hid h
  have hn := h.few
  have HAl := Lib.hid h.all
  have HQ0 : Hid (∀ V, Below w.heap.size w V → V.cell? ⟨q, 0, none⟩ = some (.slice ra n rc)) := fun V hV => by
    have := (h.rq.after hV).blk.cell 0 rfl
    rwa [h.rl] at this
  clear h
  go_enter Tryd.func35, Tryd.ntmps35
  go_wp2_with fail
  with_reducible refine HAl.out.mono ?_
  rintro e w7 ⟨Bc, rfl, hb7, hLi⟩
  have HLi := Lib.hid hLi
  have HB7 := Lib.hid hb7
  clear hLi hb7 HAl
  go_wp2_with fail
  with_reducible refine HLi.out.mono ?_
  rintro e w8 ⟨an, cn, ae, ce, zs, hzs, rfl, hsn, hse, hok, hb8, -⟩
  have hm1 : (idxP L).length = n := (idxP_len L).trans H.out.len
  rw [hm1]
  have hz1 := zs_p hzs
  obtain ⟨Z, hZ⟩ : ∃ Z, zs.map Prod.snd = Z := ⟨_, rfl⟩
  rw [hZ] at hse hz1
  have HZ := Lib.hid hz1
  have HSn := Lib.hid hsn
  have HSe := Lib.hid hse
  have HOk : Hid (∀ e ∈ Z, EnOk w8 e) := fun e he => by
    rw [← hZ] at he
    obtain ⟨z, hz, rfl⟩ := List.mem_map.1 he
    exact hok z hz
  have HB8 := Lib.hid (HB7.out.trans (hb8.mono HB7.out.size))
  clear hm1 hz1 hsn hse hok hb8 hzs hZ HLi HB7
  obtain ⟨sq, hsq⟩ : ∃ s, seqOf L = s := ⟨_, rfl⟩
  have bd : Below w8.heap.size w8 w8.drew := (Below.refl _ _).drew
  have HLn := Lib.hid (H.out.lens (HB8.out.trans (bd.mono HB8.out.size)))
  have hs1 := H.out.seq (HB8.out.trans (bd.mono HB8.out.size))
  have hs2 := fun V (hV : Below w8.heap.size w8 V) => H.out.rseq (HB8.out.trans (hV.mono HB8.out.size))
  rw [hsq] at hs1
  simp only [hsq] at hs2
  have HS1 := Lib.hid hs1
  have HS2 := Lib.hid hs2
  have f1 : (sq != sq) = false := by simp
  have HQ8 : Hid (∀ V, Below w8.heap.size w8 V → V.cell? ⟨q, 0, none⟩ = some (.slice ra n rc)) := fun V hV => HQ0.out V (HB8.out.trans (hV.mono HB8.out.size))
  clear hsq hs1 hs2
  go_wp2_with fail
  go_region_held3 (fun V => V.cell? ⟨q, 0, none⟩ = some (.slice ra n rc))
    (first | with_reducible exact HQ8.out _ bd | with_reducible exact HQ8.out _ b9 | with_reducible exact HQ8.out _ b10 | go_keep)
    (first
      | (go_at_call 27; (with_reducible refine HLn.out.mono ?_); rintro e wl ⟨rfl, hwl⟩; obtain rfl := hwl)
      | (go_at_call 28; (with_reducible refine HS1.out.mono ?_); rintro e w9 ⟨rfl, hb9⟩; have b9 := bd.trans (hb9.mono bd.size))
      | (go_at_call 57; (with_reducible refine (HS2.out _ b9).mono ?_); rintro e w10 ⟨rfl, hb10⟩; have b10 := b9.trans (hb10.mono b9.size)))
  have HB10 := Lib.hid b10
  clear b9 hb9 hb10 b10 bd f1 HS1 HS2 HLn
  go_wp2_with fail
  go_loopw [8] (fun v wr => ∃ k : Nat, k ≤ n ∧ v = .int .i64 k ∧ Below w8.heap.size w8 wr) (fun v _ => n - (intOf v).toNat)
  case atStart => exact ⟨0, by omega, rfl, HB10.out⟩
  case round =>
    obtain ⟨k, hk, rfl, hbl⟩ := hrel
    have HBl := Lib.hid hbl
    clear hbl
    by_cases hkl : k < n
    · have hx : ∃ x, L[k]? = some x := ⟨_, List.getElem?_eq_getElem (by rw [H.out.len]; exact hkl)⟩
      obtain ⟨x, hx⟩ := hx
      obtain ⟨hzk, hzp⟩ := at_p HZ.out hx
      obtain ⟨hrk, hrp⟩ := at_p H.out.rp hx
      have HbW := Lib.hid (HB8.out.trans (HBl.out.mono HB8.out.size))
      have HEn := Lib.hid (H.out.ent HbW.out k x hx)
      have hnum : (((idxP L).map Prod.fst)[k]?) = some (k : Int) := by rw [List.getElem?_map, idxP_get hx]; rfl
      obtain ⟨nb, no, rfl, _⟩ := HSn.out.recs (by rw [List.length_map, idxP_len, H.out.len]; omega)
      obtain ⟨zb, zo, rfl, hzb, _⟩ := HSe.out.at7 (by omega)
      obtain ⟨rb0, ro, rfl, hrb, _⟩ := H.out.rq.sl.at7 (by omega)
      have HNc : Hid (∀ V, Below w8.heap.size w8 V → V.cell? ⟨nb, no + k, none⟩ = some (.int .i64 (k : Int))) := fun V hV => by
        have h1 : RecsAt V (some ⟨nb, no, none⟩) 1 encN ((idxP L).map Prod.fst) := (HSn.out.after hV).recs
        have := RecsAt.cell h1 rfl (i := k) (by rw [List.length_map, idxP_len, H.out.len]; exact hkl) hnum (j := 0) (v := .int .i64 (k : Int)) rfl
        simpa using this
      have HZc : Hid (∀ V, Below w8.heap.size w8 V → Cells7At V zb (zo + k * 7) (En.at Z k)) := fun V hV => by
        obtain ⟨b', o', e', _, hc'⟩ := (HSe.out.after hV).at7 (by omega)
        cases e'
        exact hc' k hzk
      have HRc : Hid (∀ V, Below w.heap.size w V → Cells7At V rb0 (ro + k * 7) (En.at R k)) := fun V hV => by
        obtain ⟨b', o', e', _, hc'⟩ := (H.out.rq.after hV).sl.at7 (by omega)
        cases e'
        exact hc' k hrk
      have HZo := Lib.hid (HOk.out _ (at_memE hzk))
      have HRo := Lib.hid (H.out.rq.ok _ (at_memE hrk))
      obtain ⟨⟨⟨x0, x1, x2, x3, x4, x5⟩, za, zc, xl⟩, hZk⟩ : ∃ e, En.at Z k = e := ⟨_, rfl⟩
      obtain ⟨⟨rs, qa, qc, rl⟩, hRk⟩ : ∃ e, En.at R k = e := ⟨_, rfl⟩
      rw [hZk] at hzp HZc HZo
      rw [hRk] at hrp HRc HRo
      obtain rfl : x = ⟨⟨x0, x1, x2, x3, x4, x5⟩, xl⟩ := hzp.symm
      obtain ⟨rfl, rfl⟩ : rs = ⟨x0, x1, x2, x3, x4, x5⟩ ∧ xl = rl := ⟨congrArg EnP.s hrp, (congrArg EnP.ls hrp).symm⟩
      dsimp only [Cells7At] at HZc HRc
      obtain ⟨bv, rv, rb, hbv, hrv, hrb2, hd, hmx⟩ := by_vals L (k : Int)
      have HRev : Hid (∀ V, Below w.heap.size w V → Calls Tryd.prog 22 #[.pointer (some ⟨p, 0, none⟩), .int .i64 (k : Int)] V fun e w' => e = .returned (.tuple #[.int .i64 rv, .bool rb]) ∧ w' = V) := fun V hV => H.out.rev hV (k : Int) rv rb (by
        have : IntKind.i64.min ≤ (k : Int) ∧ (k : Int) ≤ 9223372036854775807 := by rw [show IntKind.i64.min = -9223372036854775808 from rfl]; omega
        simpa [Lit.wf] using this) hrv hrb2
      have HByc : Hid (∀ V, Below w.heap.size w V → Calls Tryd.prog 58 #[.pointer (some ⟨q, 0, none⟩), .int .i64 (k : Int)] V fun e w' => e = .returned (.int .i64 bv) ∧ Below V.heap.size V w') := fun V hV => by
        have := H.out.by' hV (k : Int)
        rwa [hbv] at this
      have HD := Lib.hid hd
      have HMx := Lib.hid hmx
      have i1 : (0 : Int) ≤ (k : Int) := by omega
      have i2 : (k : Int) < (n : Int) := by omega
      clear hx hzp hrp hnum hZk hRk hbv hrv hrb2 hd hmx
      go_wp2_with fail
      with_reducible refine HEn.out.mono ?_
      rintro e w5 ⟨ea, ec, rfl, he5, hb5, _⟩
      dsimp only [entV]
      obtain ⟨w6, hw6⟩ : ∃ V, w5.alloc (.cells #[.int .i64 x0, .int .i64 x1, .int .i64 x2, .int .i64 x3, .int .i64 x4, .int .i64 x5, .slice ea xl.length ec] 27) = V := ⟨_, rfl⟩
      have hb6 : Below w5.heap.size w5 w6 := by rw [← hw6]; exact (Below.refl _ _).alloc (Nat.le_refl _) _
      have hk6 : Blk w6 w5.heap.size #[.int .i64 x0, .int .i64 x1, .int .i64 x2, .int .i64 x3, .int .i64 x4, .int .i64 x5, .slice ea xl.length ec] 27 := by rw [← hw6]; exact Blk.new _ _ _
      obtain ⟨B6, hB6⟩ : ∃ m, w5.heap.size = m := ⟨_, rfl⟩
      rw [hB6] at hk6
      have HK6 := Lib.hid hk6
      have HE6 := Lib.hid (he5.after hb6)
      have hb86 : Below w8.heap.size w8 w6 := HBl.out.trans ((hb5.trans (hb6.mono hb5.size)).mono HBl.out.size)
      have HB6 := Lib.hid hb86
      have HR6 := Lib.hid (HRev.out w6 (HB8.out.trans (hb86.mono HB8.out.size)))
      have HBe := Lib.hid hB6
      have HW6 := Lib.hid hw6
      have HBy6 := Lib.hid (HByc.out w6 (HB8.out.trans (hb86.mono HB8.out.size)))
      clear hw6 hb6 hk6 hB6 he5 hb5 hb86 HEn HRev HByc
      go_wp2_with fail
      rw [HW6.out]
      try rw [HBe.out]
      clear HW6 HBe
      with_reducible refine HR6.out.mono ?_
      rintro e wl ⟨rfl, hwl⟩
      obtain rfl : w6 = wl := hwl.symm
      go_wp2_with fail
      with_reducible refine HBy6.out.mono ?_
      rintro e w7 ⟨rfl, hb7⟩
      have hb87 : Below w8.heap.size w8 w7 := HB6.out.trans (hb7.mono HB6.out.size)
      have HS : Hid (∀ V, Below w7.heap.size w7 V → V.cell? ⟨q, 0, none⟩ = some (.slice (some ⟨rb0, ro, none⟩) n rc) ∧ V.cell? ⟨nb, no + k, none⟩ = some (.int .i64 (k : Int)) ∧ (V.cell? ⟨zb, zo + k * 7, none⟩ = some (.int .i64 x0) ∧ V.cell? ⟨zb, zo + k * 7 + 1, none⟩ = some (.int .i64 x1) ∧ V.cell? ⟨zb, zo + k * 7 + 2, none⟩ = some (.int .i64 x2) ∧ V.cell? ⟨zb, zo + k * 7 + 3, none⟩ = some (.int .i64 x3) ∧ V.cell? ⟨zb, zo + k * 7 + 4, none⟩ = some (.int .i64 x4) ∧ V.cell? ⟨zb, zo + k * 7 + 5, none⟩ = some (.int .i64 x5) ∧ V.cell? ⟨zb, zo + k * 7 + 6, none⟩ = some (.slice za xl.length zc)) ∧ (V.cell? ⟨rb0, ro + k * 7, none⟩ = some (.int .i64 x0) ∧ V.cell? ⟨rb0, ro + k * 7 + 1, none⟩ = some (.int .i64 x1) ∧ V.cell? ⟨rb0, ro + k * 7 + 2, none⟩ = some (.int .i64 x2) ∧ V.cell? ⟨rb0, ro + k * 7 + 3, none⟩ = some (.int .i64 x3) ∧ V.cell? ⟨rb0, ro + k * 7 + 4, none⟩ = some (.int .i64 x4) ∧ V.cell? ⟨rb0, ro + k * 7 + 5, none⟩ = some (.int .i64 x5) ∧ V.cell? ⟨rb0, ro + k * 7 + 6, none⟩ = some (.slice qa xl.length qc)) ∧ (V.cell? ⟨B6, 0, none⟩ = some (.int .i64 x0) ∧ V.cell? ⟨B6, 1, none⟩ = some (.int .i64 x1) ∧ V.cell? ⟨B6, 2, none⟩ = some (.int .i64 x2) ∧ V.cell? ⟨B6, 3, none⟩ = some (.int .i64 x3) ∧ V.cell? ⟨B6, 4, none⟩ = some (.int .i64 x4) ∧ V.cell? ⟨B6, 5, none⟩ = some (.int .i64 x5) ∧ V.cell? ⟨B6, 6, none⟩ = some (.slice ea xl.length ec))) := fun V hV => by
        have h8 := hb87.trans (hV.mono hb87.size)
        have hw := HB8.out.trans (h8.mono HB8.out.size)
        have hk7 := HK6.out.after (hb7.trans (hV.mono hb7.size))
        exact ⟨HQ0.out V hw, HNc.out V h8, HZc.out V h8, HRc.out V hw, hk7.cell 0 rfl, hk7.cell 1 rfl, hk7.cell 2 rfl, hk7.cell 3 rfl, hk7.cell 4 rfl, hk7.cell 5 rfl, hk7.cell 6 rfl⟩
      have bd : Below w7.heap.size w7 w7.drew := (Below.refl _ _).drew
      have HPl := Lib.hid (plain_ok ⟨x0, x1, x2, x3, x4, x5⟩ za zc xl w7.drew ((HZo.out.ln.after hb87).after bd) HZo.out.few)
      have HAk : Hid (∀ V c ca, Below w7.heap.size w7 V → LnAt V c xl → Calls Tryd.prog 59 #[entV ⟨x0, x1, x2, x3, x4, x5⟩ c xl.length ca, entV ⟨x0, x1, x2, x3, x4, x5⟩ qa xl.length qc] V fun e w' => e = .returned (.bool true) ∧ Below V.heap.size V w') := fun V c ca hV hc => alike_same ⟨x0, x1, x2, x3, x4, x5⟩ c qa ca qc xl V hc (HRo.out.ln.after (HB8.out.trans ((hb87.trans (hV.mono hb87.size)).mono HB8.out.size))) HZo.out.few
      have HSm : Hid (∀ V, Below w7.heap.size w7 V → Calls Tryd.prog 26 #[entV ⟨x0, x1, x2, x3, x4, x5⟩ ea xl.length ec, entV ⟨x0, x1, x2, x3, x4, x5⟩ za xl.length zc] V fun e w' => e = .returned (.bool true) ∧ Below V.heap.size V w') := fun V hV => same_yes ⟨x0, x1, x2, x3, x4, x5⟩ ea za ec zc xl V (HE6.out.ln.after (hb7.trans (hV.mono hb7.size))) (HZo.out.ln.after (hb87.trans (hV.mono hb87.size))) (Nat.le_trans HZo.out.few (by omega))
      dsimp only [entV] at HPl HAk HSm
      have hd := HD.out
      have hmx := HMx.out
      have f1 : (rb != rb) = false := by simp
      have f2 : (rv != rv) = false := by simp
      have HB87 := Lib.hid hb87
      clear hb7 hb87
      go_wp2_with fail
      go_region_held3 (fun V => V.cell? ⟨q, 0, none⟩ = some (.slice (some ⟨rb0, ro, none⟩) n rc) ∧ V.cell? ⟨nb, no + k, none⟩ = some (.int .i64 (k : Int)) ∧ (V.cell? ⟨zb, zo + k * 7, none⟩ = some (.int .i64 x0) ∧ V.cell? ⟨zb, zo + k * 7 + 1, none⟩ = some (.int .i64 x1) ∧ V.cell? ⟨zb, zo + k * 7 + 2, none⟩ = some (.int .i64 x2) ∧ V.cell? ⟨zb, zo + k * 7 + 3, none⟩ = some (.int .i64 x3) ∧ V.cell? ⟨zb, zo + k * 7 + 4, none⟩ = some (.int .i64 x4) ∧ V.cell? ⟨zb, zo + k * 7 + 5, none⟩ = some (.int .i64 x5) ∧ V.cell? ⟨zb, zo + k * 7 + 6, none⟩ = some (.slice za xl.length zc)) ∧ (V.cell? ⟨rb0, ro + k * 7, none⟩ = some (.int .i64 x0) ∧ V.cell? ⟨rb0, ro + k * 7 + 1, none⟩ = some (.int .i64 x1) ∧ V.cell? ⟨rb0, ro + k * 7 + 2, none⟩ = some (.int .i64 x2) ∧ V.cell? ⟨rb0, ro + k * 7 + 3, none⟩ = some (.int .i64 x3) ∧ V.cell? ⟨rb0, ro + k * 7 + 4, none⟩ = some (.int .i64 x4) ∧ V.cell? ⟨rb0, ro + k * 7 + 5, none⟩ = some (.int .i64 x5) ∧ V.cell? ⟨rb0, ro + k * 7 + 6, none⟩ = some (.slice qa xl.length qc)) ∧ (V.cell? ⟨B6, 0, none⟩ = some (.int .i64 x0) ∧ V.cell? ⟨B6, 1, none⟩ = some (.int .i64 x1) ∧ V.cell? ⟨B6, 2, none⟩ = some (.int .i64 x2) ∧ V.cell? ⟨B6, 3, none⟩ = some (.int .i64 x3) ∧ V.cell? ⟨B6, 4, none⟩ = some (.int .i64 x4) ∧ V.cell? ⟨B6, 5, none⟩ = some (.int .i64 x5) ∧ V.cell? ⟨B6, 6, none⟩ = some (.slice ea xl.length ec)))
        (first | with_reducible exact HS.out _ bd | with_reducible exact HS.out _ bp | with_reducible exact HS.out _ bk | with_reducible exact HS.out _ bs)
        (first
          | (go_at_call 60; (with_reducible refine HPl.out.mono ?_); rintro e wp ⟨pc, pcap, rfl, _, hpl, hbp, _, _⟩; (dsimp only [entV]); have bp := bd.trans (hbp.mono bd.size))
          | (go_at_call 59; (with_reducible refine (HAk.out _ pc pcap bp hpl).mono ?_); rintro e wk ⟨rfl, hbk⟩; have bk := bp.trans (hbk.mono bp.size))
          | (go_at_call 26; (with_reducible refine (HSm.out _ bk).mono ?_); rintro e ws ⟨rfl, hbs⟩; have bs := bk.trans (hbs.mono bk.size)))
      have HBs := Lib.hid (HB87.out.trans (bs.mono HB87.out.size))
      clear bd bp bk bs hbp hbk hbs hd HS HPl HAk HSm hpl
      go_wp2_with fail
      go_roundw
      case rel => exact ⟨k + 1, by omega, by go_num, HBs.out⟩
      case measure => simp [intOf]; omega
    · obtain rfl : n = k := by omega
      obtain ⟨w0, hw0'⟩ : ∃ w0, w0 = wr := ⟨_, rfl⟩
      subst hw0'
      have HB0 := Lib.hid (HB8.out.trans (HBl.out.mono HB8.out.size))
      clear HSn HSe HOk HZ HBl HB10 HQ8 HB8
      go_wp2_with fail
      go_loopw [14] (fun v wr => ∃ c : Nat, c ≤ 4 ∧ v = .int .i64 c ∧ Below w.heap.size w wr) (fun v _ => 4 - (intOf v).toNat)
      case atStart => exact ⟨0, by omega, rfl, HB0.out⟩
      case round =>
        obtain ⟨c, hc, rfl, hbl⟩ := hrel
        have HBl := Lib.hid hbl
        clear hbl
        by_cases hc4 : c < 4
        · have d4 : decide ((c : Int) < 4) = true := decide_eq_true (by omega)
          have HLv := Lib.hid (H.out.live HBl.out (c : Int))
          go_wp2_with fail
          with_reducible refine HLv.out.mono ?_
          rintro e w11 ⟨Bc, Bk, rfl, hb11, hLi⟩
          have HLi := Lib.hid hLi
          have HB11 := Lib.hid (HBl.out.trans (hb11.mono HBl.out.size))
          clear hLi hb11 HLv d4
          go_wp2_with fail
          with_reducible refine HLi.out.mono ?_
          rintro e w12 ⟨an, cn, ae, ce, zs, hzs, rfl, hsn, hse, hok, hb12, -⟩
          have HB12 := Lib.hid (HB11.out.trans (hb12.mono HB11.out.size))
          have HSn := Lib.hid hsn
          have HSe := Lib.hid hse
          have HOk := Lib.hid hok
          have HZs := Lib.hid hzs
          have HRl := H.out.rlive HB12.out (c : Int)
          unfold LiveREnd at HRl
          obtain ⟨m, hm⟩ : ∃ m, (liveP L (c : Int)).length = m := ⟨_, rfl⟩
          have hm2 : m ≤ 200 := by
            have h1 : (liveP L (c : Int)).length ≤ (idxP L).length := List.length_filter_le _ _
            rw [idxP_len, H.out.len] at h1
            omega
          rw [hm] at HRl ⊢
          have HRl := Lib.hid HRl
          have HM := Lib.hid hm
          clear hsn hse hok hzs hb12 hm HLi HB11
          go_wp2_with fail
          with_reducible refine HRl.out.mono ?_
          rintro e w13 ⟨cw, cwc, rfl, hrow, hb13⟩
          have HRow := Lib.hid hrow
          have HB13 := Lib.hid hb13
          have HW13 := Lib.hid (HB12.out.trans (hb13.mono HB12.out.size))
          clear hrow hb13 HRl
          go_wp2_with fail
          go_loopw [19] (fun v wr => ∃ j : Nat, j ≤ m ∧ v = .int .i64 j ∧ Below w13.heap.size w13 wr) (fun v _ => m - (intOf v).toNat)
          case atStart => exact ⟨0, by omega, rfl, Below.refl _ _⟩
          case round =>
            obtain ⟨j, hj, rfl, hbj⟩ := hrel
            have HBj := Lib.hid hbj
            clear hbj
            by_cases hjm : j < m
            · obtain ⟨z, hz⟩ : ∃ z, (liveP L (c : Int))[j]? = some z := ⟨_, List.getElem?_eq_getElem (by rw [HM.out]; exact hjm)⟩
              obtain ⟨t, ht, hx⟩ := live_get hz
              have hzl : zs.length = m := by have := congrArg List.length HZs.out; rw [List.length_map, HM.out] at this; exact this
              have hzj : j < (zs.map Prod.snd).length := by rw [List.length_map]; omega
              have hzp : (En.at (zs.map Prod.snd) j).p = z.2 := by
                have h1 : (zs.map prI)[j]? = some z := by rw [HZs.out]; exact hz
                rw [List.getElem?_map] at h1
                obtain ⟨y, hy, hy2⟩ := Option.map_eq_some_iff.1 h1
                have h2 : (zs.map Prod.snd)[j]? = some y.2 := by rw [List.getElem?_map, hy]; rfl
                have h3 : En.at (zs.map Prod.snd) j = y.2 := by unfold En.at; rw [List.getD_eq_getElem?_getD, h2]; rfl
                rw [h3, ← hy2]
                rfl
              obtain ⟨hrk, hrp⟩ := at_p H.out.rp hx
              have htn : t < n := by have := (List.getElem?_eq_some_iff.1 hx).1; rw [H.out.len] at this; exact this
              have hnum : (((liveP L (c : Int)).map Prod.fst)[j]?) = some (t : Int) := by rw [List.getElem?_map, hz, Option.map_some, ht]
              have hml : ((liveP L (c : Int)).map Prod.fst).length = m := by rw [List.length_map]; exact HM.out
              obtain ⟨nb, no, rfl, _⟩ := HSn.out.recs (by rw [hml]; omega)
              obtain ⟨zb, zo, rfl, hzb, _⟩ := HSe.out.at7 (by omega)
              obtain ⟨rb0, ro, rfl, hrb, _⟩ := H.out.rq.sl.at7 (by omega)
              obtain ⟨mb, mo, rfl, _⟩ := HRow.out (by omega)
              have HNc : Hid (∀ V, Below w12.heap.size w12 V → V.cell? ⟨nb, no + j, none⟩ = some (.int .i64 (t : Int))) := fun V hV => by
                have h1 : RecsAt V (some ⟨nb, no, none⟩) 1 encN ((liveP L (c : Int)).map Prod.fst) := (HSn.out.after hV).recs
                have := RecsAt.cell h1 rfl (i := j) (by rw [hml]; exact hjm) hnum (j := 0) (v := .int .i64 (t : Int)) rfl
                simpa using this
              have HMc : Hid (∀ V, Below w13.heap.size w13 V → V.cell? ⟨mb, mo + j, none⟩ = some (.int .i64 (t : Int))) := fun V hV => by
                obtain ⟨b', o', e', hc'⟩ := (HRow.out.after hV) (by omega)
                cases e'
                rw [hc' j hjm]
                unfold numV
                rw [List.getD_eq_getElem?_getD, hnum]
                rfl
              have HZc : Hid (∀ V, Below w12.heap.size w12 V → Cells7At V zb (zo + j * 7) (En.at (zs.map Prod.snd) j)) := fun V hV => by
                obtain ⟨b', o', e', _, hc'⟩ := (HSe.out.after hV).at7 (by omega)
                cases e'
                exact hc' j hzj
              have HRc : Hid (∀ V, Below w.heap.size w V → Cells7At V rb0 (ro + t * 7) (En.at R t)) := fun V hV => by
                obtain ⟨b', o', e', _, hc'⟩ := (H.out.rq.after hV).sl.at7 (by omega)
                cases e'
                exact hc' t hrk
              have HZo : Hid (EnOk w12 (En.at (zs.map Prod.snd) j)) := by
                obtain ⟨y, hy, hy2⟩ := List.mem_map.1 (at_memE hzj)
                show EnOk _ _
                rw [← hy2]
                exact HOk.out y hy
              have HRo := Lib.hid (H.out.rq.ok _ (at_memE hrk))
              obtain ⟨zi, x⟩ := z
              dsimp only at ht hx hzp hrp
              obtain ⟨⟨⟨x0, x1, x2, x3, x4, x5⟩, za, zc, xl⟩, hZk⟩ : ∃ e, En.at (zs.map Prod.snd) j = e := ⟨_, rfl⟩
              obtain ⟨⟨rs, qa, qc, rl⟩, hRk⟩ : ∃ e, En.at R t = e := ⟨_, rfl⟩
              rw [hZk] at hzp HZc HZo
              rw [hRk] at hrp HRc HRo
              obtain rfl : x = ⟨⟨x0, x1, x2, x3, x4, x5⟩, xl⟩ := hzp.symm
              obtain ⟨rfl, rfl⟩ : rs = ⟨x0, x1, x2, x3, x4, x5⟩ ∧ xl = rl := ⟨congrArg EnP.s hrp, (congrArg EnP.ls hrp).symm⟩
              dsimp only [Cells7At] at HZc HRc
              have hwj : Below w.heap.size w wr := HW13.out.trans (HBj.out.mono HW13.out.size)
              have h12j : Below w12.heap.size w12 wr := HB13.out.trans (HBj.out.mono HB13.out.size)
              have HS : Hid (∀ V, Below wr.heap.size wr V → V.cell? ⟨q, 0, none⟩ = some (.slice (some ⟨rb0, ro, none⟩) n rc) ∧ V.cell? ⟨nb, no + j, none⟩ = some (.int .i64 (t : Int)) ∧ V.cell? ⟨mb, mo + j, none⟩ = some (.int .i64 (t : Int)) ∧ (V.cell? ⟨zb, zo + j * 7, none⟩ = some (.int .i64 x0) ∧ V.cell? ⟨zb, zo + j * 7 + 1, none⟩ = some (.int .i64 x1) ∧ V.cell? ⟨zb, zo + j * 7 + 2, none⟩ = some (.int .i64 x2) ∧ V.cell? ⟨zb, zo + j * 7 + 3, none⟩ = some (.int .i64 x3) ∧ V.cell? ⟨zb, zo + j * 7 + 4, none⟩ = some (.int .i64 x4) ∧ V.cell? ⟨zb, zo + j * 7 + 5, none⟩ = some (.int .i64 x5) ∧ V.cell? ⟨zb, zo + j * 7 + 6, none⟩ = some (.slice za xl.length zc)) ∧ (V.cell? ⟨rb0, ro + t * 7, none⟩ = some (.int .i64 x0) ∧ V.cell? ⟨rb0, ro + t * 7 + 1, none⟩ = some (.int .i64 x1) ∧ V.cell? ⟨rb0, ro + t * 7 + 2, none⟩ = some (.int .i64 x2) ∧ V.cell? ⟨rb0, ro + t * 7 + 3, none⟩ = some (.int .i64 x3) ∧ V.cell? ⟨rb0, ro + t * 7 + 4, none⟩ = some (.int .i64 x4) ∧ V.cell? ⟨rb0, ro + t * 7 + 5, none⟩ = some (.int .i64 x5) ∧ V.cell? ⟨rb0, ro + t * 7 + 6, none⟩ = some (.slice qa xl.length qc))) := fun V hV => ⟨HQ0.out V (hwj.trans (hV.mono hwj.size)), HNc.out V (h12j.trans (hV.mono h12j.size)), HMc.out V (HBj.out.trans (hV.mono HBj.out.size)), HZc.out V (h12j.trans (hV.mono h12j.size)), HRc.out V (hwj.trans (hV.mono hwj.size))⟩
              have bd : Below wr.heap.size wr wr.drew := (Below.refl _ _).drew
              have HPl := Lib.hid (plain_ok ⟨x0, x1, x2, x3, x4, x5⟩ za zc xl wr.drew ((HZo.out.ln.after h12j).after bd) HZo.out.few)
              have HAk : Hid (∀ V c ca, Below wr.heap.size wr V → LnAt V c xl → Calls Tryd.prog 59 #[entV ⟨x0, x1, x2, x3, x4, x5⟩ c xl.length ca, entV ⟨x0, x1, x2, x3, x4, x5⟩ qa xl.length qc] V fun e w' => e = .returned (.bool true) ∧ Below V.heap.size V w') := fun V c ca hV hc => alike_same ⟨x0, x1, x2, x3, x4, x5⟩ c qa ca qc xl V hc (HRo.out.ln.after (hwj.trans (hV.mono hwj.size))) HZo.out.few
              dsimp only [entV] at HPl HAk
              have i1 : (0 : Int) ≤ (j : Int) := by omega
              have i2 : (j : Int) < (m : Int) := by omega
              have i3 : (0 : Int) ≤ (t : Int) := by omega
              have i4 : (t : Int) < (n : Int) := by omega
              clear hx hzp hrp hnum hZk hRk hz ht hzl hml hwj h12j HNc HMc HZc HRc
              go_wp2_with fail
              go_region_held3 (fun V => V.cell? ⟨q, 0, none⟩ = some (.slice (some ⟨rb0, ro, none⟩) n rc) ∧ V.cell? ⟨nb, no + j, none⟩ = some (.int .i64 (t : Int)) ∧ V.cell? ⟨mb, mo + j, none⟩ = some (.int .i64 (t : Int)) ∧ (V.cell? ⟨zb, zo + j * 7, none⟩ = some (.int .i64 x0) ∧ V.cell? ⟨zb, zo + j * 7 + 1, none⟩ = some (.int .i64 x1) ∧ V.cell? ⟨zb, zo + j * 7 + 2, none⟩ = some (.int .i64 x2) ∧ V.cell? ⟨zb, zo + j * 7 + 3, none⟩ = some (.int .i64 x3) ∧ V.cell? ⟨zb, zo + j * 7 + 4, none⟩ = some (.int .i64 x4) ∧ V.cell? ⟨zb, zo + j * 7 + 5, none⟩ = some (.int .i64 x5) ∧ V.cell? ⟨zb, zo + j * 7 + 6, none⟩ = some (.slice za xl.length zc)) ∧ (V.cell? ⟨rb0, ro + t * 7, none⟩ = some (.int .i64 x0) ∧ V.cell? ⟨rb0, ro + t * 7 + 1, none⟩ = some (.int .i64 x1) ∧ V.cell? ⟨rb0, ro + t * 7 + 2, none⟩ = some (.int .i64 x2) ∧ V.cell? ⟨rb0, ro + t * 7 + 3, none⟩ = some (.int .i64 x3) ∧ V.cell? ⟨rb0, ro + t * 7 + 4, none⟩ = some (.int .i64 x4) ∧ V.cell? ⟨rb0, ro + t * 7 + 5, none⟩ = some (.int .i64 x5) ∧ V.cell? ⟨rb0, ro + t * 7 + 6, none⟩ = some (.slice qa xl.length qc)))
                (first | with_reducible exact HS.out _ bd | with_reducible exact HS.out _ bp | with_reducible exact HS.out _ bk)
                (first
                  | (go_at_call 60; (with_reducible refine HPl.out.mono ?_); rintro e wp ⟨pc, pcap, rfl, _, hpl, hbp, _, _⟩; (dsimp only [entV]); have bp := bd.trans (hbp.mono bd.size))
                  | (go_at_call 59; (with_reducible refine (HAk.out _ pc pcap bp hpl).mono ?_); rintro e wk ⟨rfl, hbk⟩; have bk := bp.trans (hbk.mono bp.size)))
              have HBs := Lib.hid (HBj.out.trans (bk.mono HBj.out.size))
              clear bd bp bk hbp hbk HS HPl HAk hpl
              go_wp2_with fail
              go_roundw
              case rel => exact ⟨j + 1, by omega, by go_num, HBs.out⟩
              case measure => simp [intOf]; omega
            · obtain rfl : j = m := by omega
              have HBc := Lib.hid (HW13.out.trans (HBj.out.mono HW13.out.size))
              go_wp2_with fail
              go_roundw
              case rel => exact ⟨c + 1, by omega, by go_num, HBc.out⟩
              case measure => simp [intOf]; omega
        · obtain rfl : c = 4 := by omega
          have c0 := HQ0.out wr HBl.out
          have HO1 := Lib.hid (H.out.out HBl.out (n : Int) (.inr (Int.le_refl _)))
          go_wp2_with fail
          with_reducible refine HO1.out.mono ?_
          rintro e w14 ⟨rfl, hb14⟩
          dsimp only [entV, zero6]
          have HB14 := Lib.hid (HBl.out.trans (hb14.mono HBl.out.size))
          clear hb14 HO1 c0
          have hA : ∀ o, Below w.heap.size w (w14.alloc o) := fun o => HB14.out.alloc HB14.out.size o
          have HO2 := Lib.hid (fun o => H.out.out (hA o) (-1) (.inl (by decide)))
          have HAl := Lib.hid hA
          clear hA
          go_wp2_with fail
          with_reducible refine (HO2.out _).mono ?_
          rintro e w15 ⟨rfl, hb15⟩
          dsimp only [entV, zero6]
          have HB15 := Lib.hid ((HAl.out _).trans (hb15.mono (HAl.out _).size))
          clear hb15 HO2
          have hA2 : ∀ o, Below w.heap.size w (w15.alloc o) := fun o => HB15.out.alloc HB15.out.size o
          have hrn : revI L (-1) = none := by
            unfold revI
            rw [List.findIdx?_eq_none_iff]
            intro e _
            simp
          have HRv := Lib.hid (fun o => H.out.rev (hA2 o) (-1) 0 false (by decide) (by rw [hrn]) (by rw [hrn]; rfl))
          have HAl2 := Lib.hid hA2
          clear hA2 hrn
          go_wp2_with fail
          with_reducible refine (HRv.out _).mono ?_
          rintro e w16 ⟨rfl, hw16⟩
          subst hw16
          go_wp2_with fail
          go_ret
          exact ⟨rfl, HAl2.out _⟩

end Go.Proofs.YtpinhomalmknjaaDoor
/- The statement LedgerPlays: its walk. -/
namespace Go.Proofs.YtpinhomalmknjaaDoor
open Go.RowKit Go.Sort Go.Shelf
set_option linter.unusedVariables false
set_option linter.unusedSimpArgs false
set_option maxRecDepth 100000

/-- Both ledgers, the same. -/
structure BoS (W : World) (p b s i m q : Nat) (L : List EnP) (wr : World) : Prop where
  bk : BkS W p b s i m L wr
  rq : ∃ ra rc R, RqOk wr q ra rc R ∧ R.map En.p = L
theorem BoS.after {W : World} {p b s i m q : Nat} {L : List EnP} {A C : World} (h : BoS W p b s i m q L A) (hb : Below A.heap.size A C) : BoS W p b s i m q L C := by
  obtain ⟨h1, ra, rc, R, h2, h3⟩ := h
  exact ⟨h1.after hb, ra, rc, R, h2.after hb, h3⟩
theorem BoS.rlen {W : World} {p b s i m q : Nat} {L : List EnP} {A : World} (h : BoS W p b s i m q L A) {R : List En} (hR : R.map En.p = L) : R.length ≤ m := by
  have h3 := congrArg List.length hR
  have := h.bk.len
  rw [List.length_map] at h3
  omega
theorem BoS.does {W : World} {p b s i m q : Nat} {L : List EnP} {w : World} (h : BoS W p b s i m q L w) (ha : Apart3 W p b s) (hRu : RulesAt W) (hi : i ≤ 50) (hm : m ≤ 900) (hqW : W.heap.size ≤ q) (hqp : q ≠ p) (hqb : q ≠ b) (hqs : q ≠ s) (op os : Int) (ok : Bool) (oa : Option Addr) (oc : Nat) (X : List En)
    (hx : EnsAt W oa X) (hxl : X.length ≤ 6) (hxw : ∀ x ∈ X, (Lit.int .i64 x.s.ref).wf = true) :
    Calls Tryd.prog 14 #[.pointer (some ⟨p, 0, none⟩), .pointer (some ⟨q, 0, none⟩), .pointer (some ⟨b, 0, none⟩), .agg #[.int .i64 op, .int .i64 os, .bool ok, .slice oa X.length oc]] w fun e w' => e = .returned (.bool true) ∧ ∃ L', BoS W p b s (i + 1) (m + 6) q L' w' := by
  obtain ⟨ra, rc, R, h2, h3⟩ := h.rq
  have hRl := h.rlen h3
  refine (does_ok W p b s i m L q ra rc R op os ok oa oc X w h.bk ha hRu hi hm h2 (by omega) (by rw [h3]; exact h.bk.wl) hqW hqp hqb hqs hx (by omega) hxw).mono ?_
  rintro e w' ⟨r, lk, ra', rc', R', rfl, k1, k2, _, k3⟩
  obtain ⟨rfl, k4⟩ := k3 h3
  exact ⟨rfl, _, k1.more (by omega), ra', rc', R', k2, k4⟩
theorem BoS.same {W : World} {p b s i m q : Nat} {L : List EnP} {w : World} (h : BoS W p b s i m q L w) (hm : m ≤ 200) : Calls Tryd.prog 35 #[.pointer (some ⟨p, 0, none⟩), .pointer (some ⟨q, 0, none⟩)] w (TrueEnd w) := by
  obtain ⟨ra, rc, R, h2, h3⟩ := h.rq
  exact same_ok15 p q ra rc L.length L R w ⟨h.bk.ex, h2.at', h3, h.bk.wl, rfl, Nat.le_trans h.bk.len hm⟩
set_option maxHeartbeats 200000000 in
theorem walk_LedgerPlays (w : World) (hR : RulesAt w) (a : Option Addr) (cap : Nat) (ops : List Opc) (h : OpsIn w a ops) (hl : ops.length ≤ maxLen) :
    Calls Tryd.prog 8 #[.slice a ops.length cap] w (TrueEnd w) := by
  have H := Lib.hid h
  have HR := Lib.hid hR
  have HFw := Lib.hid (few15 a cap ops w h hl)
  have hl' : ops.length ≤ 9223372036854775807 := by unfold maxLen at hl; omega
  clear hR h hl
  go_enter Tryd.func8, Tryd.ntmps8
  go_wp2_with fail
  with_reducible refine HFw.out.mono ?_
  rintro e w1 ⟨bb, rfl, hfew, hb1⟩
  have HFew := Lib.hid hfew
  have HB1 := Lib.hid hb1
  clear hfew hb1 HFw
  cases bb
  · go_wp2_with fail
    with_reducible refine (awake15 w1 (HR.out.after HB1.out)).mono ?_
    rintro e w2 ⟨rfl, hb2⟩
    go_wp2_with fail
    go_ret
    exact ⟨rfl, HB1.out.trans (hb2.mono HB1.out.size)⟩
  have hw1 : 0 < w.heap.size := World.block_lt_of_cell? w _ HR.out.r0
  obtain ⟨hn20, hfew⟩ := HFew.out rfl
  have HFew2 := Lib.hid hfew
  clear hfew HFew
  go_wp2_with fail
  with_reducible refine (lnew_ok w1).mono ?_
  rintro e w3 ⟨p, bm, la, lc, rfl, hL3, hb3, hp3, -⟩
  have HL3 := Lib.hid hL3
  have HB3 := Lib.hid (HB1.out.trans (hb3.mono HB1.out.size))
  have hpw : p < w3.heap.size := hL3.blk.lt
  have zp : w.heap.size ≤ p := by have := HB1.out.size; omega
  clear hL3 hb3
  go_wp2_with fail
  with_reducible refine (pnew_box 30 w3 (by omega) (by omega)).mono ?_
  rintro e w4 ⟨b, s, rfl, hP4, hX4, hb4, hzb, hzs, hsb⟩
  have z3 := HB3.out.size
  have hbl := hP4.lt
  have z4 := hb4.size
  have HA : Hid (Apart3 w p b s) := ⟨zp, by omega, by omega, by omega, by omega, hsb⟩
  obtain ⟨w5, hw5⟩ : ∃ V, w4.alloc (.cells #[.slice none 0 0] 40) = V := ⟨_, rfl⟩
  have hb5 : Below w4.heap.size w4 w5 := by rw [← hw5]; exact (Below.refl _ _).alloc (Nat.le_refl _) _
  have hRq : RqOk w5 w4.heap.size none 0 [] := by rw [← hw5]; exact RqOk.new w4
  have hb45 := hb4.trans (hb5.mono hb4.size)
  have HE5 : Hid (BoS w p b s 0 (6 * 0) w4.heap.size [] w5) := ⟨⟨⟨bm, la, lc, [], (HL3.out.after hb4).after hb5, rfl⟩, WL.nil, ⟨0, hP4.after hb5, by omega, by omega⟩, hX4.after hb5, by simp, HB3.out.trans (hb45.mono z3)⟩, none, 0, [], hRq, rfl⟩
  have HW5 := Lib.hid hw5
  obtain ⟨q, hq⟩ : ∃ n, w4.heap.size = n := ⟨_, rfl⟩
  have hqW : w.heap.size ≤ q := by omega
  have hqne : q ≠ p ∧ q ≠ b ∧ q ≠ s := by omega
  have HQ := Lib.hid hq
  rw [hq] at HE5
  clear hP4 hX4 hb4 HL3 HB3 HB1 z3 hzb hzs hsb hpw zp hbl hp3 z4 hw5 hb5 hRq hb45 hq
  go_wp2_with fail
  rw [HW5.out]
  try rw [HQ.out]
  clear HW5 HQ
  go_loopw [7] (fun u wr => ∃ i : Nat, i ≤ ops.length ∧ u = .int .i64 i ∧ ∃ L, Hid (BoS w p b s i (6 * i) q L wr)) (fun u _ => ops.length - (intOf u).toNat)
  case atStart => exact ⟨0, by omega, rfl, [], HE5.out⟩
  case round =>
    obtain ⟨i, hi, rfl, L, HE⟩ := hrel
    by_cases hlt : i < ops.length
    · obtain ⟨ab, ao, rfl, hbb, hcell⟩ := H.out.cells (by omega)
      have hC := Lib.hid (hcell i hlt)
      have hO := Lib.hid (H.out.2 i hlt)
      have hF : Hid (FewO (Opc.at ops i)) := Lib.hid (HFew2.out _ (by unfold Opc.at; rw [List.getD_eq_getElem?_getD, List.getElem?_eq_getElem hlt]; exact List.getElem_mem hlt))
      obtain ⟨⟨op, os, ok, oa, ocap, oes⟩, hOO⟩ : ∃ x, Opc.at ops i = x := ⟨_, rfl⟩
      rw [hOO] at hC hO hF
      have hrw : Hid (∀ x ∈ oes, (Lit.int .i64 x.s.ref).wf = true) := fun x hx => by
        obtain ⟨k, hk, rfl⟩ := List.getElem_of_mem hx
        have := (hO.out.en.2 k hk).rw
        unfold En.at at this
        rwa [List.getD_eq_getElem?_getD, List.getElem?_eq_getElem hk] at this
      have i1 : (0 : Int) ≤ (i : Int) := by omega
      have i2 : (i : Int) < (ops.length : Int) := by omega
      clear hcell hOO
      obtain ⟨c0, c1, c2, c3⟩ := hC.out.after HE.out.bk.be hbb
      dsimp only at c0 c1 c2 c3
      have HDo := Lib.hid (HE.out.does HA.out HR.out (by omega) (by omega) hqW hqne.1 hqne.2.1 hqne.2.2 op os ok oa ocap oes (hO.out.en.few hF.out.2) hF.out.1 hrw.out)
      go_wp2_with fail
      with_reducible refine HDo.out.mono ?_
      rintro e w7 ⟨rfl, L', hb7⟩
      have HN : Hid (BoS w p b s (i + 1) (6 * (i + 1)) q L' w7) := hb7
      have HSm := Lib.hid (hb7.same (by omega))
      clear hb7 HDo c0 c1 c2 c3
      go_wp2_with fail
      with_reducible refine HSm.out.mono ?_
      rintro e w8 ⟨rfl, hb8⟩
      have HN8 := Lib.hid (HN.out.after hb8)
      clear HN HSm hb8
      go_wp2_with fail
      go_roundw
      case rel => exact ⟨i + 1, by omega, by go_num, _, HN8⟩
      case measure => simp [intOf]; omega
    · obtain rfl : i = ops.length := by omega
      have HAw := Lib.hid (awake15 wr (HR.out.after HE.out.bk.be))
      go_wp2_with fail
      with_reducible refine HAw.out.mono ?_
      rintro e w15 ⟨rfl, hb15⟩
      have HBz := Lib.hid (HE.out.bk.be.trans (hb15.mono HE.out.bk.be.size))
      clear hb15
      go_wp2_with fail
      go_ret
      exact ⟨rfl, HBz.out⟩

end Go.Proofs.YtpinhomalmknjaaDoor
/- The statement LedgerPlays's arguments. -/
namespace Go.Proofs.YtpinhomalmknjaaDoor
open Go.ChangeShapes Go.WideShapes Go.ChangeAt Go.RowKit
set_option linter.unusedVariables false
set_option maxRecDepth 100000

theorem open_LedgerPlays {H : Type} (enc : TypeId × Value → H) (base : Nat) (W : World) (hR : RulesAt W) (v0 : Value) (d0 : DataW H) (p0 : List MemPlace) (h0 : DataW.Trod enc Tryd.prog W 0 (fun _ => true) true 22 v0 d0 p0) (ok0 : Value.okWide Tryd.prog W .any base 22 v0) :
    Calls Tryd.prog 8 #[v0] W fun e W' => e = .returned (.bool true) ∧ Below W.heap.size W W' := by
  obtain ⟨a, len, cap, rfl⟩ := okWide_slice Tryd.underlying22 ok0
  have hl := arg_leaves (d := 2) (ls := [22]) (by kernel_rfl) h0
  obtain ⟨c0, cs0, e0, h1, hl⟩ := hl.cons
  obtain rfl := hl.nil
  simp only [Value.cells, List.cons.injEq, and_true] at e0
  subst e0
  obtain ⟨a', cap', ops, e1, q1, q2, q3, q4⟩ := open_ops_leaf h1
  rw [e1]
  exact walk_LedgerPlays W hR a' cap' ops q1 (by omega)

end Go.Proofs.YtpinhomalmknjaaDoor
