/- The law's may, book. -/
import Derived.Test.YtmjgcenhgpkhiaaDoorMgL
import Derived.Test.YtmjgcenhgpkhiaaDoorAdU
namespace Go.Proofs.YtmjgcenhgpkhiaaDoor
open Go.RowKit Go.Sort Go.Shelf
set_option linter.unusedVariables false
set_option linter.unusedSimpArgs false
set_option maxRecDepth 100000

def MayEnd (w : World) (l : List Fl) (e : Ending) (w' : World) : Prop := ∃ b, e = .returned (.bool b) ∧ Below w.heap.size w w' ∧ (b = true → l.length ≤ 20 ∧ ordB l = true ∧ ∀ y ∈ l, MayF y)
structure InF (y : Fl) : Prop where
  day : 0 ≤ y.d ∧ y.d ≤ 73048
  cur : 0 ≤ y.c ∧ y.c < 8
  bd : -1152921504606846976 ≤ y.a ∧ y.a ≤ 1152921504606846976
set_option maxHeartbeats 8000000 in
theorem may_ok16 (a : Option Addr) (cap : Nat) (l : List Fl) (w : World) (h : SlG w 3 encW a cap l) : Calls Tryd.prog 14 #[.slice a l.length cap] w (MayEnd w l) := by
  have hl : l.length ≤ 9223372036854775807 := by have h1 := h.le; have h2 := h.max; unfold maxLen at h2; omega
  have H := Lib.hid h
  clear h
  go_enter Tryd.func14, Tryd.ntmps14
  go_wp2_with fail
  go_loopw [3] (fun s wr => ∃ i : Nat, i ≤ l.length ∧ s = .int .i64 (i : Int) ∧ (∀ y ∈ l.take i, InF y) ∧ Below w.heap.size w wr) (fun s _ => l.length - (intOf s).toNat)
  case atStart => exact ⟨0, by omega, rfl, fun e he => (by simp at he), Below.refl _ _⟩
  case round =>
    obtain ⟨k, hk, rfl, hin, hbl⟩ := hrel
    by_cases hlt : k < l.length
    · obtain ⟨x, hy⟩ : ∃ x, l[k]'hlt = x := ⟨_, rfl⟩
      have hx : l[k]? = some x := by rw [← hy]; exact List.getElem?_eq_getElem hlt
      have HT : Hid (l.take (k + 1) = l.take k ++ [x]) := by show _ = _; rw [List.take_succ_eq_append_getElem hlt, hy]
      obtain ⟨b0, o0, rfl, _⟩ := H.out.recs (by omega)
      have hXr : RecsAt wr (some ⟨b0, o0, none⟩) 3 encW l := RowsAt.after H.out.recs hbl
      obtain ⟨d, c, n⟩ := x
      have q0 : wr.cell? ⟨b0, o0 + k * 3, none⟩ = some (.int .i64 d) := RecsAt.cell hXr rfl hlt hx (j := 0) rfl
      have q1 : wr.cell? ⟨b0, o0 + k * 3 + 1, none⟩ = some (.int .i64 c) := RecsAt.cell hXr rfl hlt hx (j := 1) rfl
      have q2 : wr.cell? ⟨b0, o0 + k * 3 + 2, none⟩ = some (.int .i64 n) := RecsAt.cell hXr rfl hlt hx (j := 2) rfl
      have i1 : (0 : Int) ≤ (k : Int) := by omega
      have i2 : (k : Int) < (l.length : Int) := by omega
      have HIn := Lib.hid hin
      clear hy hx hXr hin
      by_cases t1 : d < 0
      · have d1 : decide (d < 0) = true := decide_eq_true t1
        go_wp2_with fail
        go_ret
        exact ⟨false, rfl, hbl, fun e => by cases e⟩
      have d1 : decide (d < 0) = false := decide_eq_false t1
      by_cases t2 : 73048 < d
      · have d2 : decide (73048 < d) = true := decide_eq_true t2
        go_wp2_with fail
        go_ret
        exact ⟨false, rfl, hbl, fun e => by cases e⟩
      have d2 : decide (73048 < d) = false := decide_eq_false t2
      by_cases t3 : c < 0
      · have d3 : decide (c < 0) = true := decide_eq_true t3
        go_wp2_with fail
        go_ret
        exact ⟨false, rfl, hbl, fun e => by cases e⟩
      have d3 : decide (c < 0) = false := decide_eq_false t3
      by_cases t4 : 8 ≤ c
      · have d4 : decide (8 ≤ c) = true := decide_eq_true t4
        go_wp2_with fail
        go_ret
        exact ⟨false, rfl, hbl, fun e => by cases e⟩
      have d4 : decide (8 ≤ c) = false := decide_eq_false t4
      by_cases t5 : 1152921504606846976 < n
      · have d5 : decide (1152921504606846976 < n) = true := decide_eq_true t5
        go_wp2_with fail
        go_ret
        exact ⟨false, rfl, hbl, fun e => by cases e⟩
      have d5 : decide (1152921504606846976 < n) = false := decide_eq_false t5
      by_cases t6 : n < -1152921504606846976
      · have d6 : decide (n < -1152921504606846976) = true := decide_eq_true t6
        go_wp2_with fail
        go_ret
        exact ⟨false, rfl, hbl, fun e => by cases e⟩
      have d6 : decide (n < -1152921504606846976) = false := decide_eq_false t6
      have HX : Hid (InF ⟨d, c, n⟩) := ⟨⟨by dsimp only; omega, by dsimp only; omega⟩, ⟨by dsimp only; omega, by dsimp only; omega⟩, ⟨by dsimp only; omega, by dsimp only; omega⟩⟩
      clear t1 t2 t3 t4 t5 t6
      go_wp2_with fail
      go_roundw
      case rel => exact ⟨k + 1, by omega, by go_num, fun y hy => by
        rw [HT.out] at hy
        rcases List.mem_append.1 hy with hy | hy
        · exact HIn.out y hy
        · rw [List.mem_singleton.1 hy]; exact HX.out, hbl⟩
      case measure => simp [intOf]; omega
    · obtain rfl : k = l.length := by omega
      rw [List.take_length] at hin
      have HIn := Lib.hid hin
      clear hin
      by_cases h20 : l.length ≤ 20
      · have d1 : decide ((l.length : Int) ≤ 20) = true := decide_eq_true (by omega)
        have d2 : decide (l.length ≤ 20) = true := decide_eq_true h20
        have HO := Lib.hid (reford_ok a cap l wr (H.out.after hbl) (by omega))
        go_wp2_with fail
        with_reducible refine HO.out.mono ?_
        rintro e w1 ⟨rfl, hb1⟩
        obtain ⟨B, hB⟩ : ∃ B, ordB l = B := ⟨_, rfl⟩
        rw [hB]
        have HF : Hid (MayEnd w l (.returned (.bool B)) w1) := ⟨B, rfl, hbl.trans (hb1.mono hbl.size), fun e => ⟨h20, by rw [hB]; exact e, fun y hy => by
          have hi := HIn.out y hy
          exact ⟨hi.day, hi.cur, (ordB_ok (by rw [hB]; exact e)).1 y hy, hi.bd⟩⟩⟩
        clear hB
        cases B
        · go_wp2_with fail
          go_ret
          exact HF.out
        · go_wp2_with fail
          go_ret
          exact HF.out
      · have d1 : decide ((l.length : Int) ≤ 20) = false := decide_eq_false (by omega)
        have d2 : decide (l.length ≤ 20) = false := decide_eq_false h20
        go_wp2_with fail
        go_ret
        exact ⟨false, rfl, hbl, fun e => by cases e⟩

theorem Bks.nil : Bks [] [] := by
  refine ⟨WL.nil, fun e he => by simp at he, by simp [lvs, lvsP, liveP, idxP], fun y => ?_, fun d c => ?_, rfl, fun y hy => by simp at hy⟩
  · simp [lvs, lvsP, liveP, idxP]
  · simp [sumT, sumQ, wantAt]
def BookEnd (W : World) (g : List Fl) (V : World) (e : Ending) (w' : World) : Prop :=
  ∃ p b s pl, e = .returned (.tuple #[.pointer (some ⟨p, 0, none⟩), .pointer (some ⟨b, 0, none⟩), .bool true]) ∧ IsPlan (lvs []) g pl ∧ StQ [] 1 pl ∧ BkS W p b s ([] ++ stM 1 (entsL 1 2 3 (ansL []) pl)) g w'
set_option maxHeartbeats 4000000 in
theorem book_ok (W : World) (hR : RulesAt W) (g : List Fl) (ag : Option Addr) (cg : Nat) (V : World) (hV : Below W.heap.size W V) (hg : SlG W 3 encW ag cg g) (hgl : g.length ≤ 20) (ho : ordB g = true) (hm : ∀ y ∈ g, MayF y) :
    Calls Tryd.prog 15 #[.slice ag g.length cg] V (BookEnd W g V) := by
  have HG := Lib.hid hg
  have HM := Lib.hid hm
  have HO := Lib.hid ho
  have HR := Lib.hid hR
  have HV := Lib.hid hV
  have HP := Lib.hid (pnew_ok 400 V (by omega) (by omega))
  clear hg hm ho hR hV
  go_enter Tryd.func15, Tryd.ntmps15
  go_wp2_with fail
  with_reducible refine HP.out.mono ?_
  rintro e w1 ⟨b, s, rfl, hP1, hb1, hbb, hbs⟩
  have HP1 := Lib.hid hP1
  have HN := Lib.hid (lnew_ok w1)
  have HB1 := Lib.hid (HV.out.trans (hb1.mono HV.out.size))
  have hPlt := hP1.lt
  clear hP1 hb1 HP
  go_wp2_with fail
  with_reducible refine HN.out.mono ?_
  rintro e w2 ⟨p, bm, a, cap, rfl, hL2, hb2, hp2, _⟩
  have hz := HB1.out.size
  have hS : BkS W p b s [] [] w2 := ⟨⟨bm, a, cap, [], hL2, rfl⟩, HP1.out.after hb2, Bks.nil, HB1.out.trans (hb2.mono HB1.out.size), by omega, by omega, by omega⟩
  have HT := Lib.hid (turn_ok W HR.out p b s [] [] g 1 ag cg w2 hS (by simp) HG.out hgl HO.out HM.out (by omega) (by simp [seqOf]))
  clear hS hL2 hb2 HN
  go_wp2_with fail
  with_reducible refine HT.out.mono ?_
  rintro e w3 ⟨rfl, pl, h1, h2, h3⟩
  have HF : Hid (BookEnd W g V (.returned (.tuple #[.pointer (some ⟨p, 0, none⟩), .pointer (some ⟨b, 0, none⟩), .bool true])) w3) := ⟨p, b, s, pl, rfl, h1, h2, h3⟩
  clear h1 h2 h3
  go_wp2_with fail
  refine bodyPost_ret (v := .tuple #[.pointer (some ⟨p, 0, none⟩), .pointer (some ⟨b, 0, none⟩), .bool true]) ?_ rfl ?_
  · simp [results, Tryd.results15, go_sem]
  · exact HF.out

end Go.Proofs.YtmjgcenhgpkhiaaDoor
