/- The statement AdjustBooks: its walk. -/
import Derived.Test.YtmjgcenhgpkhiaaDoorBkG
namespace Go.Proofs.YtmjgcenhgpkhiaaDoor
open Go.RowKit Go.Sort Go.Shelf
set_option linter.unusedVariables false
set_option linter.unusedSimpArgs false
set_option maxRecDepth 100000

/-- What is known of books behind some turns. -/
structure BkN (W : World) (p b s : Nat) (L : List EnP) (f : List Fl) (n : Nat) (q : Int) (V : World) : Prop where
  st : BkS W p b s L f V
  ln : L.length = n
  sq : seqOf L ≤ q
theorem BkN.after {W : World} {p b s : Nat} {L : List EnP} {f : List Fl} {n : Nat} {q : Int} {V V' : World} (h : BkN W p b s L f n q V) (hb : Below V.heap.size V V') : BkN W p b s L f n q V' := ⟨h.st.after hb, h.ln, h.sq⟩
def TurnN (W : World) (p b s : Nat) (g : List Fl) (n : Nat) (q : Int) (e : Ending) (w' : World) : Prop := e = .returned (.bool true) ∧ ∃ L', BkN W p b s L' g n q w'
theorem turn_n {W : World} (hR : RulesAt W) {p b s : Nat} {L : List EnP} {f g : List Fl} {n : Nat} {q seq : Int} {ag : Option Addr} {cg : Nat} {V : World} (h : BkN W p b s L f n q V) (hn : n ≤ 200) (hg : SlG W 3 encW ag cg g) (hgl : g.length ≤ 20) (ho : ordB g = true) (hm : ∀ y ∈ g, MayF y) (hs : 0 ≤ seq) (hq : q ≤ seq) (n' : Nat) (hn' : n' + 2 * both f g = n + f.length + g.length) :
    Calls Tryd.prog 17 #[.pointer (some ⟨p, 0, none⟩), .pointer (some ⟨b, 0, none⟩), .int .i64 seq, .slice ag g.length cg] V (TurnN W p b s g n' seq) := by
  have hsq := h.sq
  refine (turn_ok W hR p b s L f g seq ag cg V h.st (by have := h.ln; omega) hg hgl ho hm hs (by omega)).mono ?_
  rintro e w' ⟨rfl, pl, h1, h2, h3⟩
  obtain ⟨r, v, e1, e2, e3⟩ := turn_len h.st.bk hm ho h1 h2
  have := h.ln
  exact ⟨rfl, _, h3, by omega, seqOf_st (by omega)⟩
def BookN (W : World) (g : List Fl) (e : Ending) (w' : World) : Prop := ∃ p b s L, e = .returned (.tuple #[.pointer (some ⟨p, 0, none⟩), .pointer (some ⟨b, 0, none⟩), .bool true]) ∧ BkN W p b s L g g.length 1 w'
theorem book_n {W : World} (hR : RulesAt W) {g : List Fl} {ag : Option Addr} {cg : Nat} {V : World} (hV : Below W.heap.size W V) (hg : SlG W 3 encW ag cg g) (hgl : g.length ≤ 20) (ho : ordB g = true) (hm : ∀ y ∈ g, MayF y) :
    Calls Tryd.prog 15 #[.slice ag g.length cg] V (BookN W g) := by
  refine (book_ok W hR g ag cg V hV hg hgl ho hm).mono ?_
  rintro e w' ⟨p, b, s, pl, rfl, h1, h2, h3⟩
  obtain ⟨r, v, e1, e2, e3⟩ := turn_len Bks.nil hm ho h1 h2
  rw [both_nil] at e2 e3
  simp only [List.length_nil] at e1 e2
  exact ⟨p, b, s, _, rfl, h3, by omega, seqOf_st (by simp [seqOf])⟩
theorem tells_n {W : World} {p b s : Nat} {L : List EnP} {f : List Fl} {n : Nat} {q : Int} {af : Option Addr} {cf : Nat} {V : World} (h : BkN W p b s L f n q V) (hn : n ≤ 200) (hf : SlG W 3 encW af cf f) (hfl : f.length ≤ 20) :
    Calls Tryd.prog 16 #[.pointer (some ⟨p, 0, none⟩), .slice af f.length cf] V fun e w' => e = .returned (.bool true) ∧ Below V.heap.size V w' := tells_ok W p b s L f af cf V h.st (by have := h.ln; omega) hf hfl
theorem len_n {W : World} {p b s : Nat} {L : List EnP} {f : List Fl} {n : Nat} {q : Int} {V : World} (h : BkN W p b s L f n q V) :
    Calls Tryd.prog 18 #[.pointer (some ⟨p, 0, none⟩)] V fun e w' => e = .returned (.int .i64 (n : Int)) ∧ w' = V := by
  obtain ⟨bm, a, cap, E, h1, h2⟩ := h.st.lg
  refine (llen_ok p bm a cap E V h1).mono ?_
  rintro e w' ⟨rfl, hw⟩
  have : E.length = n := by rw [← h.ln, ← h2, List.length_map]
  exact ⟨by rw [this], hw⟩


set_option maxHeartbeats 8000000 in
theorem walk_AdjustBooks (W : World) (hR : RulesAt W) (aa : Option Addr) (ca : Nat) (a : List Fl) (ab : Option Addr) (cb : Nat) (b : List Fl) (ha : SlG W 3 encW aa ca a) (hb : SlG W 3 encW ab cb b) :
    Calls Tryd.prog 4 #[.slice aa a.length ca, .slice ab b.length cb] W (TrueEnd16 W) := by
  have HR := Lib.hid hR
  have HA := Lib.hid ha
  have HB := Lib.hid hb
  have HMa := Lib.hid (may_ok16 aa ca a W ha)
  clear hR ha hb
  go_enter Tryd.func4, Tryd.ntmps4
  go_wp2_with fail
  with_reducible refine HMa.out.mono ?_
  rintro e w1 ⟨b1, rfl, hb1, hm1⟩
  have HB1 := Lib.hid hb1
  have HM1 := Lib.hid hm1
  clear hb1 hm1
  cases b1
  · go_wp2_with fail
    with_reducible refine (awake_ok w1).mono ?_
    rintro e wz ⟨rfl, hbz⟩
    go_wp2_with fail
    go_ret
    exact ⟨rfl, HB1.out.trans (hbz.mono HB1.out.size)⟩
  have HMb := Lib.hid (may_ok16 ab cb b w1 (HB.out.after HB1.out))
  go_wp2_with fail
  with_reducible refine HMb.out.mono ?_
  rintro e w2 ⟨b2, rfl, hb2, hm2⟩
  have HB2 := Lib.hid (HB1.out.trans (hb2.mono HB1.out.size))
  have HM2 := Lib.hid hm2
  clear hb2 hm2
  cases b2
  · go_wp2_with fail
    with_reducible refine (awake_ok w2).mono ?_
    rintro e wz ⟨rfl, hbz⟩
    go_wp2_with fail
    go_ret
    exact ⟨rfl, HB2.out.trans (hbz.mono HB2.out.size)⟩
  obtain ⟨la, oa, ma⟩ := HM1.out (by first | rfl | trivial)
  obtain ⟨lb, ob, mb⟩ := HM2.out (by first | rfl | trivial)
  have HBk := Lib.hid (book_n HR.out HB2.out HA.out la oa ma)
  have HOa := Lib.hid oa
  have HOb := Lib.hid ob
  have HMa := Lib.hid ma
  have HMb := Lib.hid mb
  clear oa ma ob mb
  go_wp2_with fail
  with_reducible refine HBk.out.mono ?_
  rintro e w3 ⟨p, pb, s, L, rfl, hN3⟩
  have HN3 := Lib.hid hN3
  have HT3 := Lib.hid (tells_n hN3 (by omega) HA.out la)
  clear hN3
  go_wp2_with fail
  with_reducible refine HT3.out.mono ?_
  rintro e w4 ⟨rfl, hb4⟩
  have hN4 := HN3.out.after hb4
  obtain ⟨n5, hn5⟩ : ∃ n5, n5 + 2 * both a b = a.length + a.length + b.length := ⟨a.length + a.length + b.length - 2 * both a b, by
    have h1 : both a b ≤ a.length := List.length_filter_le _ _
    have h2 : both a b ≤ b.length := by rw [both_comm (ordB_ok HOa.out).2.nodup (ordB_ok HOb.out).2.nodup]; exact List.length_filter_le _ _
    omega⟩
  have HTu := Lib.hid (turn_n HR.out hN4 (by omega) HB.out lb HOb.out HMb.out (show (0 : Int) ≤ 2 by omega) (by omega) n5 hn5)
  have HN5 := Lib.hid hn5
  have hle5 : n5 ≤ 2 * a.length + b.length := by omega
  clear hN4 hb4 hn5
  go_wp2_with fail
  with_reducible refine HTu.out.mono ?_
  rintro e w5 ⟨rfl, L5, hK5⟩
  have HK5 := Lib.hid hK5
  have HT5 := Lib.hid (tells_n hK5 (by omega) HB.out lb)
  clear hK5
  go_wp2_with fail
  with_reducible refine HT5.out.mono ?_
  rintro e w6 ⟨rfl, hb6⟩
  have HK6 := Lib.hid (HK5.out.after hb6)
  have HLe := Lib.hid (len_n HK6.out)
  clear hb6
  go_wp2_with fail
  with_reducible refine HLe.out.mono ?_
  rintro e w7 ⟨rfl, hw7⟩
  obtain rfl : w6 = w7 := hw7.symm
  have HTu2 := Lib.hid (turn_n HR.out HK6.out (by omega) HB.out lb HOb.out HMb.out (show (0 : Int) ≤ 3 by omega) (by omega) n5 (by rw [both_self]; omega))
  go_wp2_with fail
  with_reducible refine HTu2.out.mono ?_
  rintro e w8 ⟨rfl, L8, hK8⟩
  have HK8 := Lib.hid hK8
  have HLe8 := Lib.hid (len_n hK8)
  clear hK8
  have g1 : IntKind.i64.wrap (2 * (a.length : Int)) = 2 * (a.length : Int) := by
    unfold IntKind.wrap
    simp [IntKind.signed, IntKind.bits]
    omega
  have g2 : IntKind.i64.wrap (2 * (a.length : Int) + (b.length : Int)) = 2 * (a.length : Int) + (b.length : Int) := by
    unfold IntKind.wrap
    simp [IntKind.signed, IntKind.bits]
    omega
  have g3 : decide ((n5 : Int) ≤ 2 * (a.length : Int) + (b.length : Int)) = true := decide_eq_true (by omega)
  go_wp2_with fail
  with_reducible refine HLe8.out.mono ?_
  rintro e w9 ⟨rfl, hw9⟩
  obtain rfl : w8 = w9 := hw9.symm
  go_wp2_with fail
  with_reducible refine (awake_ok w8).mono ?_
  rintro e wz ⟨rfl, hbz⟩
  go_wp2_with fail
  go_ret
  exact ⟨rfl, HK8.out.st.be.trans (hbz.mono HK8.out.st.be.size)⟩

end Go.Proofs.YtmjgcenhgpkhiaaDoor
