/- The law's Made and Plain. -/
import Derived.Test.YtfimgdjpnlcckaaFacO
import Derived.Test.YtfimgdjpnlcckaaFacL
namespace Go.Proofs.Ytfimgdjpnlcckaa
open Go.RowKit
set_option linter.unusedVariables false
set_option linter.unusedSimpArgs false

def MadeEnd (w : World) (s : St) (e : Ending) (w' : World) : Prop :=
  ∃ p ba bc, e = .returned (.pointer (some ⟨p, 0, none⟩)) ∧ FactsAt w' p ba bc s.1 s.2 ∧ Below w.heap.size w w' ∧ w.heap.size ≤ p ∧ w.heap.size ≤ ba ∧ w.heap.size ≤ bc
/-- A list that is told, in memory. -/
structure ToldAt (w : World) (a : Option Addr) (l : List Tl) : Prop where
  at_ : RecsAt w a 6 encT l
  ok : ∀ x ∈ l, x.Ok
theorem ToldAt.after {w w' : World} {a : Option Addr} {l : List Tl} (h : ToldAt w a l) (hb : Below w.heap.size w w') : ToldAt w' a l := ⟨h.at_.after hb, h.ok⟩

set_option maxHeartbeats 4000000 in
set_option maxRecDepth 100000 in
theorem made_ok (a : Option Addr) (cap : Nat) (l : List Tl) (hl : l.length ≤ 9223372036854775807) (w : World) (h : ToldAt w a l) :
    Calls Try.prog 16 #[.slice a l.length cap] w (MadeEnd w (madeS l)) := by
  have HR := Lib.hid h
  clear h
  go_enter Try.func16, Try.ntmps16
  go_wp2_with fail
  with_reducible refine (new_ok _).mono ?_
  rintro e w1 ⟨p, ba, bc, rfl, hF, hb, g1, g2, g3⟩
  have HF := Lib.hid hF
  have HB := Lib.hid hb
  clear hF hb
  go_wp2_with fail
  go_loopw [4] (fun i wr => ∃ j : Nat, j ≤ l.length ∧ i = .int .i64 j ∧ Hid (FactsAt wr p ba bc (madeS (l.take j)).1 (madeS (l.take j)).2) ∧ Hid (Below w.heap.size w wr)) (fun i _ => l.length - (intOf i).toNat)
  case atStart => exact ⟨0, by omega, rfl, HF, HB⟩
  case round =>
    obtain ⟨j, hj, rfl, HFr, HBr⟩ := hrel
    by_cases hlt : j < l.length
    · have hx := List.getElem?_eq_getElem hlt
      obtain ⟨x, hy⟩ : ∃ x, l[j] = x := ⟨_, rfl⟩
      have hxo : x.Ok := by rw [← hy]; exact HR.out.ok _ (List.getElem_mem _)
      have hT : l.take (j + 1) = l.take j ++ [l[j]] := List.take_succ_eq_append_getElem hlt
      rw [hy] at hx hT
      have HX := Lib.hid hxo
      have HT := Lib.hid hT
      have hR : RecsAt wr a 6 encT l := (HR.out.after HBr.out).at_
      obtain ⟨b, o, rfl, _⟩ := hR (by omega)
      have t0 : wr.cell? ⟨b, o + j * 6, none⟩ = some (.bool x.c) := RecsAt.cell hR rfl hlt hx (j := 0) rfl
      have t1 : wr.cell? ⟨b, o + j * 6 + 1, none⟩ = some (.int .i64 x.k) := RecsAt.cell hR rfl hlt hx (j := 1) rfl
      have t2 : wr.cell? ⟨b, o + j * 6 + 2, none⟩ = some (.int .i64 x.d) := RecsAt.cell hR rfl hlt hx (j := 2) rfl
      have t3 : wr.cell? ⟨b, o + j * 6 + 3, none⟩ = some (.int .i64 x.n) := RecsAt.cell hR rfl hlt hx (j := 3) rfl
      have t4 : wr.cell? ⟨b, o + j * 6 + 4, none⟩ = some (.int .i64 x.m) := RecsAt.cell hR rfl hlt hx (j := 4) rfl
      have t5 : wr.cell? ⟨b, o + j * 6 + 5, none⟩ = some (.int .i64 x.p) := RecsAt.cell hR rfl hlt hx (j := 5) rfl
      clear hx hR hy hT hxo
      obtain ⟨xc, xk, xd, xn, xm, xp⟩ := x
      dsimp only at t0 t1 t2 t3 t4 t5
      have HC := Lib.hid (tell_ok p ba bc _ _ _ HX.out _ HFr.out)
      dsimp only [encT] at HC
      go_wp2_with fail
      with_reducible refine HC.out.mono ?_
      rintro e w2 ⟨rfl, ht2, hF2⟩
      have HF2 : Hid (FactsAt w2 p ba bc (madeS (l.take (j + 1))).1 (madeS (l.take (j + 1))).2) := by
        show FactsAt _ _ _ _ _ _
        rw [HT.out, madeS_snoc]
        exact hF2
      have HB2 : Hid (Below w.heap.size w w2) := HBr.out.trans (ht2.below HBr.out.size (by simp [g2, g3]))
      clear ht2 hF2
      go_wp2_with fail
      go_roundw
      case rel => exact ⟨j + 1, by omega, by go_num, HF2, HB2⟩
      case measure => simp [intOf]; omega
    · obtain rfl : j = l.length := by omega
      rw [List.take_length] at HFr
      go_wp2_with fail
      go_ret
      exact ⟨p, ba, bc, rfl, HFr.out, HBr.out, g1, g2, g3⟩

def plS (l : List Tl) : Pl := l.foldl plainS ([], [])
theorem plS_snoc (l : List Tl) (x : Tl) : plS (l ++ [x]) = plainS (plS l) x := by simp [plS]
theorem plS_eq (l : List Tl) : plS l = ((madeS l).1.map Fx.fc, (madeS l).2.map Ch.fc) := plain_made l
theorem plS_rising (l : List Tl) : Rising Fc.ky (plS l).1 ∧ Rising Fc.ky (plS l).2 := by
  have h := madeS_ok l
  unfold plS
  rw [plain_made]
  exact ⟨rising_map (fun _ => rfl) h.1, rising_map (fun _ => rfl) h.2⟩
theorem plS_len (l : List Tl) : (plS l).1.length ≤ l.length ∧ (plS l).2.length ≤ l.length := by
  have h := madeS_len l
  unfold plS
  rw [plain_made]
  simpa using h
def PlainEnd (w : World) (s : Pl) (e : Ending) (w' : World) : Prop :=
  ∃ a1 c1 a2 c2, e = .returned (.tuple #[.slice a1 s.1.length c1, .slice a2 s.2.length c2]) ∧ RecsAt w' a1 5 encF s.1 ∧ RecsAt w' a2 5 encF s.2 ∧ Below w.heap.size w w'
def PlainRel (w wr : World) (s : Pl) (v4 v5 : Value) : Prop :=
  ∃ a1 c1 a2 c2, v4 = .slice a1 s.1.length c1 ∧ v5 = .slice a2 s.2.length c2 ∧ RecsAt wr a1 5 encF s.1 ∧ RecsAt wr a2 5 encF s.2 ∧ Below w.heap.size w wr

set_option maxHeartbeats 8000000 in
set_option maxRecDepth 100000 in
theorem plain_ok (a : Option Addr) (cap : Nat) (l : List Tl) (hl : l.length ≤ 1000) (w : World) (h : ToldAt w a l) :
    Calls Try.prog 13 #[.slice a l.length cap] w (PlainEnd w (plS l)) := by
  have HR := Lib.hid h
  clear h
  go_enter Try.func13, Try.ntmps13
  go_wp2_with fail
  go_loopw [4, 5, 6] (fun v4 v5 i wr => ∃ j : Nat, j ≤ l.length ∧ i = .int .i64 j ∧ Hid (PlainRel w wr (plS (l.take j)) v4 v5)) (fun _ _ i _ => l.length - (intOf i).toNat)
  case atStart => exact ⟨0, by omega, rfl, none, 0, none, 0, rfl, rfl, RowsAt.nil _ _ _ _, RowsAt.nil _ _ _ _, Below.refl _ _⟩
  case round =>
    obtain ⟨j, hj, rfl, HPR⟩ := hrel
    by_cases hlt : j < l.length
    · have HBr := Lib.hid HPR.out.choose_spec.choose_spec.choose_spec.choose_spec.2.2.2.2
      have hx := List.getElem?_eq_getElem hlt
      obtain ⟨x, hy⟩ : ∃ x, l[j] = x := ⟨_, rfl⟩
      have hxo : x.Ok := by rw [← hy]; exact HR.out.ok _ (List.getElem_mem _)
      have hT : l.take (j + 1) = l.take j ++ [l[j]] := List.take_succ_eq_append_getElem hlt
      rw [hy] at hx hT
      have HX := Lib.hid hxo
      have HT := Lib.hid hT
      have hR : RecsAt wr a 6 encT l := (HR.out.after HBr.out).at_
      obtain ⟨b, o, rfl, _⟩ := hR (by omega)
      have t0 : wr.cell? ⟨b, o + j * 6, none⟩ = some (.bool x.c) := RecsAt.cell hR rfl hlt hx (j := 0) rfl
      have t1 : wr.cell? ⟨b, o + j * 6 + 1, none⟩ = some (.int .i64 x.k) := RecsAt.cell hR rfl hlt hx (j := 1) rfl
      have t2 : wr.cell? ⟨b, o + j * 6 + 2, none⟩ = some (.int .i64 x.d) := RecsAt.cell hR rfl hlt hx (j := 2) rfl
      have t3 : wr.cell? ⟨b, o + j * 6 + 3, none⟩ = some (.int .i64 x.n) := RecsAt.cell hR rfl hlt hx (j := 3) rfl
      have t4 : wr.cell? ⟨b, o + j * 6 + 4, none⟩ = some (.int .i64 x.m) := RecsAt.cell hR rfl hlt hx (j := 4) rfl
      have t5 : wr.cell? ⟨b, o + j * 6 + 5, none⟩ = some (.int .i64 x.p) := RecsAt.cell hR rfl hlt hx (j := 5) rfl
      clear hx hR hy hT hxo
      obtain ⟨xc, xk, xd, xn, xm, xp⟩ := x
      dsimp only at t0 t1 t2 t3 t4 t5
      have hn := plS_len (l.take j)
      have hri := plS_rising (l.take j)
      have htl : (l.take j).length ≤ l.length := by rw [List.length_take]; omega
      have HTS : Hid (plS (l.take (j + 1)) = plainS (plS (l.take j)) ⟨xc, xk, xd, xn, xm, xp⟩) := by show _ = _; rw [HT.out, plS_snoc]
      obtain ⟨S, hS⟩ : ∃ S, plS (l.take j) = S := ⟨_, rfl⟩
      rw [hS] at HPR HTS hn hri
      have HRI := Lib.hid hri
      clear hS hri HT
      obtain ⟨a1, c1, a2, c2, rfl, rfl, hr1, hr2, hbr⟩ := HPR.out
      obtain ⟨wy, hwy⟩ : ∃ wy, wr.alloc (.cells #[.bool xc, .int .i64 xk, .int .i64 xd, .int .i64 xn, .int .i64 xm, .int .i64 xp] 31) = wy := ⟨_, rfl⟩
      have hby : Below wr.heap.size wr wy := by rw [← hwy]; exact (Below.refl _ _).alloc (Nat.le_refl _) _
      have KY : Hid (Blk wy wr.heap.size #[.bool xc, .int .i64 xk, .int .i64 xd, .int .i64 xn, .int .i64 xm, .int .i64 xp] 31) := by rw [← hwy]; exact Blk.new _ _ _
      have HW := Lib.hid (wrong_ok _ HX.out wy)
      dsimp only [encT] at HW
      have y0 : wy.cell? ⟨wr.heap.size, 0, none⟩ = some (.bool xc) := (KY.out).cell 0 rfl
      have y1 : wy.cell? ⟨wr.heap.size, 1, none⟩ = some (.int .i64 xk) := (KY.out).cell 1 rfl
      have y2 : wy.cell? ⟨wr.heap.size, 2, none⟩ = some (.int .i64 xd) := (KY.out).cell 2 rfl
      have y3 : wy.cell? ⟨wr.heap.size, 3, none⟩ = some (.int .i64 xn) := (KY.out).cell 3 rfl
      have y4 : wy.cell? ⟨wr.heap.size, 4, none⟩ = some (.int .i64 xm) := (KY.out).cell 4 rfl
      have y5 : wy.cell? ⟨wr.heap.size, 5, none⟩ = some (.int .i64 xp) := (KY.out).cell 5 rfl
      have HR1 := Lib.hid (hr1.after hby)
      have HR2 := Lib.hid (hr2.after hby)
      have HBY := Lib.hid (hbr.trans (hby.mono hbr.size))
      clear hr1 hr2 hbr hby HPR
      go_wp2_with fail
      with_reducible refine HW.out.mono ?_
      rintro e w2 ⟨rfl, hb2⟩
      clear y0 y1 y2 y3 y4 y5 hwy
      have y0 : w2.cell? ⟨wr.heap.size, 0, none⟩ = some (.bool xc) := (KY.out.after hb2).cell 0 rfl
      have y1 : w2.cell? ⟨wr.heap.size, 1, none⟩ = some (.int .i64 xk) := (KY.out.after hb2).cell 1 rfl
      have y2 : w2.cell? ⟨wr.heap.size, 2, none⟩ = some (.int .i64 xd) := (KY.out.after hb2).cell 2 rfl
      have y3 : w2.cell? ⟨wr.heap.size, 3, none⟩ = some (.int .i64 xn) := (KY.out.after hb2).cell 3 rfl
      have y4 : w2.cell? ⟨wr.heap.size, 4, none⟩ = some (.int .i64 xm) := (KY.out.after hb2).cell 4 rfl
      have y5 : w2.cell? ⟨wr.heap.size, 5, none⟩ = some (.int .i64 xp) := (KY.out.after hb2).cell 5 rfl
      have HR1' : Hid (RecsAt w2 a1 5 encF S.1) := HR1.out.after hb2
      have HR2' : Hid (RecsAt w2 a2 5 encF S.2) := HR2.out.after hb2
      have HB2 : Hid (Below w.heap.size w w2) := HBY.out.trans (hb2.mono HBY.out.size)
      clear hb2 HR1 HR2 HBY
      obtain ⟨V, hV⟩ : ∃ V, wrongT ⟨xc, xk, xd, xn, xm, xp⟩ = V := ⟨_, rfl⟩
      rw [hV]
      by_cases h0 : V = 0
      · subst h0
        have HV := Lib.hid hV
        clear hV
        cases xc with
        | true =>
          have HTT : Hid (plS (l.take (j + 1)) = (S.1, putK Fc.ky S.2 ⟨xk, xd, 0, 0, xp⟩)) := by
            show _ = _
            rw [HTS.out]
            unfold plainS
            rw [if_pos HV.out]
            rfl
          have HP := Lib.hid (put_ok a2 c2 S.2 ⟨xk, xd, 0, 0, xp⟩ (by omega) w2 HR2'.out)
          dsimp only [encF] at HP
          go_wp2_with fail
          with_reducible refine HP.out.mono ?_
          rintro e w3 ⟨a3, c3, rfl, hr3, hb3⟩
          have HE : Hid (PlainRel w w3 (plS (l.take (j + 1))) (.slice a1 S.1.length c1) (.slice a3 (putEnd ⟨xk, xd, 0, 0, xp⟩ (putF S.2 ⟨xk, xd, 0, 0, xp⟩)).length c3)) := by
            show PlainRel _ _ _ _ _
            rw [HTT.out]
            rw [putF_eq HRI.out.2] at hr3 ⊢
            exact ⟨a1, c1, a3, c3, rfl, rfl, HR1'.out.after hb3, hr3, HB2.out.trans (hb3.mono HB2.out.size)⟩
          clear hr3 hb3
          go_wp2_with fail
          go_roundw
          case rel => exact ⟨j + 1, by omega, by go_num, HE⟩
          case measure => simp [intOf]; omega
        | false =>
          have HTT : Hid (plS (l.take (j + 1)) = (putK Fc.ky S.1 ⟨xk, xd, xn, xm, 0⟩, S.2)) := by
            show _ = _
            rw [HTS.out]
            unfold plainS
            rw [if_pos HV.out]
            rfl
          have HP := Lib.hid (put_ok a1 c1 S.1 ⟨xk, xd, xn, xm, 0⟩ (by omega) w2 HR1'.out)
          dsimp only [encF] at HP
          go_wp2_with fail
          with_reducible refine HP.out.mono ?_
          rintro e w3 ⟨a3, c3, rfl, hr3, hb3⟩
          have HE : Hid (PlainRel w w3 (plS (l.take (j + 1))) (.slice a3 (putEnd ⟨xk, xd, xn, xm, 0⟩ (putF S.1 ⟨xk, xd, xn, xm, 0⟩)).length c3) (.slice a2 S.2.length c2)) := by
            show PlainRel _ _ _ _ _
            rw [HTT.out]
            rw [putF_eq HRI.out.1] at hr3 ⊢
            exact ⟨a3, c3, a2, c2, rfl, rfl, hr3, HR2'.out.after hb3, HB2.out.trans (hb3.mono HB2.out.size)⟩
          clear hr3 hb3
          go_wp2_with fail
          go_roundw
          case rel => exact ⟨j + 1, by omega, by go_num, HE⟩
          case measure => simp [intOf]; omega
      · have h0' : (V != 0) = true := by simpa using h0
        have HTT : Hid (plS (l.take (j + 1)) = S) := by
          show _ = _
          rw [HTS.out]
          unfold plainS
          rw [if_neg (by rw [hV]; exact h0)]
        have HE : Hid (PlainRel w w2 (plS (l.take (j + 1))) (.slice a1 S.1.length c1) (.slice a2 S.2.length c2)) := by
          show PlainRel _ _ _ _ _
          rw [HTT.out]
          exact ⟨a1, c1, a2, c2, rfl, rfl, HR1'.out, HR2'.out, HB2.out⟩
        clear h0 hV
        go_wp2_with fail
        go_roundw
        case rel => exact ⟨j + 1, by omega, by go_num, HE⟩
        case measure => simp [intOf]; omega
    · obtain rfl : j = l.length := by omega
      rw [List.take_length] at HPR
      go_wp2_with fail
      go_ret2
      obtain ⟨a1, c1, a2, c2, rfl, rfl, hr1, hr2, hbr⟩ := HPR.out
      exact ⟨a1, c1, a2, c2, rfl, hr1, hr2, hbr⟩

end Go.Proofs.Ytfimgdjpnlcckaa
