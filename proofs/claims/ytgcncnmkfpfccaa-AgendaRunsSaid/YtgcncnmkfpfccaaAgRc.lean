/- The document's agenda: Drop. -/
import Derived.Test.YtgcncnmkfpfccaaAgRb
import Derived.Test.YtgcncnmkfpfccaaAgZ
namespace Go.Proofs.Ytgcncnmkfpfccaa
open Go.RowKit Go.Sort Go.Shelf
set_option linter.unusedVariables false
set_option linter.unusedSimpArgs false

theorem blk3 {W : World} {B : Nat} {T : TypeId} {a b c : Value} (h : Blk W B #[a, b, c] T) : W.cell? ⟨B, 0, none⟩ = some a ∧ W.cell? ⟨B, 1, none⟩ = some b ∧ W.cell? ⟨B, 2, none⟩ = some c ∧ W.frozen? ⟨B, 0, none⟩ = false ∧ W.frozen? ⟨B, 1, none⟩ = false ∧ W.frozen? ⟨B, 2, none⟩ = false := ⟨h.cell 0 rfl, h.cell 1 rfl, h.cell 2 rfl, h.free 0, h.free 1, h.free 2⟩
theorem fin3 {W : World} {B : Nat} {T : TypeId} {a b c : Value} (h : Blk W B #[a, b, c] T) (x y z : Value) : Blk (((W.setCell ⟨B, 0, none⟩ x).setCell ⟨B, 1, none⟩ y).setCell ⟨B, 2, none⟩ z) B #[x, y, z] T := ((h.set 0 x).set 1 y).set 2 z
theorem turn3 (W : World) (B : Nat) (x y z : Value) : Turn [B] W (((W.setCell ⟨B, 0, none⟩ x).setCell ⟨B, 1, none⟩ y).setCell ⟨B, 2, none⟩ z) := ((Turn.cell1 W B 0 x).trans (Turn.cell1 _ B 1 y)).trans (Turn.cell1 _ B 2 z)
theorem far3 {W : World} {R B : Nat} {T : TypeId} {cs : Array Value} (h : Blk W R cs T) (hn : R ≠ B) (x y z : Value) : Blk (((W.setCell ⟨B, 0, none⟩ x).setCell ⟨B, 1, none⟩ y).setCell ⟨B, 2, none⟩ z) R cs T := ((h.far 0 x hn).far 1 y hn).far 2 z hn
def drV (o : Option It) : It × Int := match o with | none => (⟨0, 0, 0⟩, 16) | some x => (x, 0)
def RDropEnd (w : World) (R : Nat) (a : Option Addr) (S : List It) (N no : Int) (e : Ending) (w' : World) : Prop := e = .returned (opR (drV (getO S no))) ∧ RgEnd w R a (dropS S no) N w'
set_option maxHeartbeats 4000000 in
set_option maxRecDepth 100000 in
theorem rdrop_ok (R : Nat) (a : Option Addr) (cap : Nat) (S : List It) (N no : Int) (w : World) (h : RgAt w R a cap S N) (hl : S.length ≤ 1000) (hn : Nos S) :
    Calls Try.prog 14 #[.pointer (some ⟨R, 0, none⟩), .int .i64 no] w (RDropEnd w R a S N no) := by
  obtain ⟨i0, hi, hz0, hz1, hz2⟩ := info_parts infoRt
  obtain ⟨w0, hw0⟩ : ∃ W, w.alloc (.cells #[.int .i64 0, .int .i64 0, .int .i64 0] 37) = W := ⟨_, rfl⟩
  have hb0 : Below w.heap.size w w0 := by rw [← hw0]; exact (Below.refl _ _).alloc (Nat.le_refl _) _
  have z0 : w0.heap.size = w.heap.size + 1 := by rw [← hw0]; simp
  have kr : Blk w0 w.heap.size #[.int .i64 0, .int .i64 0, .int .i64 0] 37 := by rw [← hw0]; exact Blk.new _ _ _
  have h0 := h.after hb0
  have hRl : R < w.heap.size := h.blk.lt
  have hcap := h.sl.le
  have hcm := h.sl.max
  unfold maxLen at hcm
  have H := Lib.hid h
  have H0 := Lib.hid h0
  have HB0 := Lib.hid hb0
  have HKR := Lib.hid kr
  have HW0 := Lib.hid hw0
  have HNs := Lib.hid hn
  clear h h0 hb0 kr hw0 hn
  go_enter Try.func14, Try.ntmps14
  go_wp2_with fail
  rw [HW0.out]
  go_loopw [6] (fun i wr => ∃ j : Nat, j ≤ S.length ∧ i = .int .i64 j ∧ Hid ((∀ i, i < j → ∀ z, S[i]? = some z → z.n ≠ no) ∧ w0 = wr)) (fun i _ => S.length - (intOf i).toNat)
  case atStart => exact ⟨0, by omega, rfl, fun i hi => absurd hi (by omega), rfl⟩
  case round =>
    obtain ⟨j, hj, rfl, HQ⟩ := hrel
    obtain rfl := HQ.out.2
    have c0 : w0.cell? ⟨R, 0, none⟩ = some (.slice a S.length cap) := H0.out.blk.cell 0 rfl
    have i1 : (0 : Int) ≤ (j : Int) := by omega
    by_cases hlt : j < S.length
    · have hx := List.getElem?_eq_getElem hlt
      obtain ⟨x, hy⟩ : ∃ x, S[j] = x := ⟨_, rfl⟩
      rw [hy] at hx
      have hR := H0.out.sl.recs
      rcases H0.out.sl.sh with ⟨rfl, rfl, rfl⟩ | ⟨b, o, rfl, hbl⟩
      · exact absurd hlt (by simp)
      obtain ⟨yd, yn, yt⟩ := x
      have p0 : w0.cell? ⟨b, o + j * 3, none⟩ = some (.int .i64 yd) := RecsAt.cell hR rfl hlt hx (j := 0) rfl
      have p1 : w0.cell? ⟨b, o + j * 3 + 1, none⟩ = some (.int .i64 yn) := RecsAt.cell hR rfl hlt hx (j := 1) rfl
      have p2 : w0.cell? ⟨b, o + j * 3 + 2, none⟩ = some (.int .i64 yt) := RecsAt.cell hR rfl hlt hx (j := 2) rfl
      have i2 : (j : Int) < (S.length : Int) := by omega
      by_cases he : yn = no
      · subst he
        obtain ⟨w1, hw1⟩ : ∃ W, w0.alloc (.cells #[.int .i64 yd, .int .i64 yn, .int .i64 yt] 37) = W := ⟨_, rfl⟩
        have hb1 : Below w0.heap.size w0 w1 := by rw [← hw1]; exact (Below.refl _ _).alloc (Nat.le_refl _) _
        have kx : Blk w1 w0.heap.size #[.int .i64 yd, .int .i64 yn, .int .i64 yt] 37 := by rw [← hw1]; exact Blk.new _ _ _
        have z1 : w1.heap.size = w0.heap.size + 1 := by rw [← hw1]; simp
        have HB1 := Lib.hid hb1
        have HSW : Hid (∀ W, Below w1.heap.size w1 W → RecsAt W (some ⟨b, o, none⟩) 3 encI S) := fun W hW => (H0.out.after (hb1.trans (hW.mono (by omega)))).sl.recs
        have HKR1 := Lib.hid (HKR.out.after hb1)
        have HRB1 := Lib.hid ((H0.out.after hb1).blk)
        have HXB : Hid (∀ W, Below w1.heap.size w1 W → Blk W R #[.slice (some ⟨b, o, none⟩) S.length cap, .int .i64 N] 29 ∧ Blk W w0.heap.size #[.int .i64 yd, .int .i64 yn, .int .i64 yt] 37 ∧ Blk W w.heap.size #[.int .i64 0, .int .i64 0, .int .i64 0] 37) := fun W hW => ⟨HRB1.out.after hW, kx.after hW, HKR1.out.after hW⟩
        have c1 : w1.cell? ⟨R, 0, none⟩ = some (.slice (some ⟨b, o, none⟩) S.length cap) := (HXB.out _ (Below.refl _ _)).1.cell 0 rfl
        have HG : Hid (getO S yn = some ⟨yd, yn, yt⟩) := getO_at HNs.out hx
        have HD : Hid (dropS S yn = S.take j ++ S.drop (j + 1)) := dropS_at HNs.out hx
        have i3 : IntKind.i64.wrap ((j : Int) + 1) = (j : Int) + 1 := IntWalk.i64_in _ (by omega)
        have i4 : (j : Int) + 1 ≤ (S.length : Int) := by omega
        have z1' : (w0.alloc (.cells #[.int .i64 yd, .int .i64 yn, .int .i64 yt] 37)).heap.size = w0.heap.size + 1 := by simp
        clear hb1 kx hx hy hR
        subst hw1
        by_cases hcj : cap = j + 1
        · subst hcj
          go_wp2_with (first
            | (at_builtin; refine wpList_append_recs (enc := encI) rfl (.tmp 35) (.tmp 41) 27 rfl (w0.alloc (.cells #[.int .i64 yd, .int .i64 yn, .int .i64 yt] 37)).heap.size 37 i0 _ 24 Try.underlying27 hi hz0 hz1 hz2 rfl (by decide) (fun _ => rfl) encI_one _ 0 [] rfl rfl (World.ownsRow_nil _ _ _ _) _ _ _ (S.take j) rfl ((HSW.out _ (Below.refl _ _)).takeR j) (by rw [List.length_take]; omega) (by intro h; cases h) (by unfold maxLen; omega) (by omega) (by omega) ?_; intro v1 w5 hown1 hb5; have hown1' : w5.ownsRow (w0.alloc (.cells #[.int .i64 yd, .int .i64 yn, .int .i64 yt] 37)).heap.size 37 3 v1 j (cellsL encI (S.take j)) := (by simpa using hown1); have HO1 := Lib.hid hown1'; have HB5 := Lib.hid hb5; have c5 : w5.cell? ⟨R, 0, none⟩ = some (.slice (some ⟨b, o, none⟩) S.length (j + 1)) := (HXB.out w5 hb5).1.cell 0 rfl; have z5 := hb5.size; clear hown1 hown1' hb5)
            | (at_builtin; refine wpList_append_recs (enc := encI) rfl (.tmp 44) (.tmp 51) 27 rfl (w0.alloc (.cells #[.int .i64 yd, .int .i64 yn, .int .i64 yt] 37)).heap.size 37 i0 _ 24 Try.underlying27 hi hz0 hz1 hz2 rfl (by decide) (fun _ => rfl) encI_one _ j (S.take j) rfl (by rw [List.length_take]; omega) HO1.out _ _ _ ([]) rfl (RowsAt.nil _ _ _ _) (rfl) (by intro h; cases h) (by unfold maxLen; omega) (by omega) (by omega) ?_; intro v2 w6 hown2 hb6; rw [show S.take j ++ [] = dropS S yn by rw [HD.out, List.drop_eq_nil_of_le (by omega)]] at hown2; have hO2 : w6.ownsRow (w0.alloc (.cells #[.int .i64 yd, .int .i64 yn, .int .i64 yt] 37)).heap.size 37 3 v2 (dropS S yn).length (cellsL encI (dropS S yn)) := (by rw [show (dropS S yn).length = j + 0 from by rw [HD.out]; simp; omega]; exact hown2); obtain ⟨a2, cap2, rfl, hSl, hXl⟩ := sl_own (enc := encI) (fun _ => rfl) hO2; have HSl := Lib.hid hSl; have HXl := Lib.hid hXl; have hb6' := HB5.out.trans hb6; have HB6 := Lib.hid hb6'; obtain ⟨kR6, kx6, kr6⟩ := HXB.out w6 hb6'; have c6 : w6.cell? ⟨R, 0, none⟩ = some (.slice (some ⟨b, o, none⟩) S.length (j + 1)) := kR6.cell 0 rfl; have f6 := kR6.free 0; have kx7 : Blk (w6.setCell ⟨R, 0, none⟩ (.slice a2 (dropS S yn).length cap2)) (w.heap.size + 1) #[.int .i64 yd, .int .i64 yn, .int .i64 yt] 37 := (by rw [← z0]; exact kx6.far 0 _ (by omega)); have kr7 : Blk (w6.setCell ⟨R, 0, none⟩ (.slice a2 (dropS S yn).length cap2)) w.heap.size #[.int .i64 0, .int .i64 0, .int .i64 0] 37 := kr6.far 0 _ (by omega); obtain ⟨x0, x1, x2, _, _, _⟩ := blk3 kx7; obtain ⟨r0, r1, r2, rf0, rf1, rf2⟩ := blk3 kr7; have HKR7 := Lib.hid kr7; have HKR6 := Lib.hid kR6; clear kx6 kr6 kx7 kr7 kR6 hown2 hO2 hSl hXl hb6 hb6')
            | fail)
          have kF := fin3 HKR7.out (.int .i64 yd) (.int .i64 yn) (.int .i64 yt)
          obtain ⟨g0, g1, g2, _, _, _⟩ := blk3 kF
          have t6 : Turn [R] w w6 := Turn.of_below (HB0.out.trans ((HB1.out.trans (HB6.out.mono (by omega))).mono (by omega)))
          have t7 := t6.trans (Turn.cell1 w6 R 0 (.slice a2 (dropS S yn).length cap2))
          have k7 := turn3 (w6.setCell ⟨R, 0, none⟩ (.slice a2 (dropS S yn).length cap2)) w.heap.size (.int .i64 yd) (.int .i64 yn) (.int .i64 yt)
          have hX := HXl.out
          have HFin : Hid (RDropEnd w R (some ⟨b, o, none⟩) S N yn (.returned (.tuple #[.agg #[.int .i64 yd, .int .i64 yn, .int .i64 yt], .int .i64 0])) _) := ⟨by rw [HG.out]; rfl, rg_set H.out ((HSl.out.turn (Turn.cell1 w6 R 0 _) (fun x e => by have := (hX x e).1; rw [List.mem_singleton]; omega)).turn k7 (fun x e => by have := (hX x e).1; rw [List.mem_singleton]; omega)) (fun x e => by have := (hX x e).1; omega) (t7.over k7 (by simp)) (far3 (HKR6.out.set 0 _) (by omega) _ _ _) (fun x e => by have := (hX x e).1; right; omega)⟩
          clear t6 t7 k7 hX kF
          refine bodyPost_ret (v := .tuple #[.agg #[.int .i64 yd, .int .i64 yn, .int .i64 yt], .int .i64 0]) (by simp [results, Try.results14, go_sem, g0, g1, g2]) rfl ?_
          exact HFin.out
        · go_wp2_with (first
            | (at_builtin; refine wpList_append_recs (enc := encI) rfl (.tmp 35) (.tmp 41) 27 rfl (w0.alloc (.cells #[.int .i64 yd, .int .i64 yn, .int .i64 yt] 37)).heap.size 37 i0 _ 24 Try.underlying27 hi hz0 hz1 hz2 rfl (by decide) (fun _ => rfl) encI_one _ 0 [] rfl rfl (World.ownsRow_nil _ _ _ _) _ _ _ (S.take j) rfl ((HSW.out _ (Below.refl _ _)).takeR j) (by rw [List.length_take]; omega) (by intro h; cases h) (by unfold maxLen; omega) (by omega) (by omega) ?_; intro v1 w5 hown1 hb5; have hown1' : w5.ownsRow (w0.alloc (.cells #[.int .i64 yd, .int .i64 yn, .int .i64 yt] 37)).heap.size 37 3 v1 j (cellsL encI (S.take j)) := (by simpa using hown1); have HO1 := Lib.hid hown1'; have HB5 := Lib.hid hb5; have c5 : w5.cell? ⟨R, 0, none⟩ = some (.slice (some ⟨b, o, none⟩) S.length cap) := (HXB.out w5 hb5).1.cell 0 rfl; have z5 := hb5.size; clear hown1 hown1' hb5)
            | (at_builtin; refine wpList_append_recs (enc := encI) rfl (.tmp 44) (.tmp 51) 27 rfl (w0.alloc (.cells #[.int .i64 yd, .int .i64 yn, .int .i64 yt] 37)).heap.size 37 i0 _ 24 Try.underlying27 hi hz0 hz1 hz2 rfl (by decide) (fun _ => rfl) encI_one _ j (S.take j) rfl (by rw [List.length_take]; omega) HO1.out _ _ _ (S.drop (j + 1)) rfl ((HSW.out _ HB5.out).dropR (j + 1)) (by rw [List.length_drop]) (by intro h; cases h) (by unfold maxLen; omega) (by omega) (by omega) ?_; intro v2 w6 hown2 hb6; rw [show S.take j ++ S.drop (j + 1) = dropS S yn by rw [HD.out]] at hown2; have hO2 : w6.ownsRow (w0.alloc (.cells #[.int .i64 yd, .int .i64 yn, .int .i64 yt] 37)).heap.size 37 3 v2 (dropS S yn).length (cellsL encI (dropS S yn)) := (by rw [show (dropS S yn).length = j + (S.length - (j + 1)) from by rw [HD.out]; simp; omega]; exact hown2); obtain ⟨a2, cap2, rfl, hSl, hXl⟩ := sl_own (enc := encI) (fun _ => rfl) hO2; have HSl := Lib.hid hSl; have HXl := Lib.hid hXl; have hb6' := HB5.out.trans hb6; have HB6 := Lib.hid hb6'; obtain ⟨kR6, kx6, kr6⟩ := HXB.out w6 hb6'; have c6 : w6.cell? ⟨R, 0, none⟩ = some (.slice (some ⟨b, o, none⟩) S.length cap) := kR6.cell 0 rfl; have f6 := kR6.free 0; have kx7 : Blk (w6.setCell ⟨R, 0, none⟩ (.slice a2 (dropS S yn).length cap2)) (w.heap.size + 1) #[.int .i64 yd, .int .i64 yn, .int .i64 yt] 37 := (by rw [← z0]; exact kx6.far 0 _ (by omega)); have kr7 : Blk (w6.setCell ⟨R, 0, none⟩ (.slice a2 (dropS S yn).length cap2)) w.heap.size #[.int .i64 0, .int .i64 0, .int .i64 0] 37 := kr6.far 0 _ (by omega); obtain ⟨x0, x1, x2, _, _, _⟩ := blk3 kx7; obtain ⟨r0, r1, r2, rf0, rf1, rf2⟩ := blk3 kr7; have HKR7 := Lib.hid kr7; have HKR6 := Lib.hid kR6; clear kx6 kr6 kx7 kr7 kR6 hown2 hO2 hSl hXl hb6 hb6')
            | fail)
          have kF := fin3 HKR7.out (.int .i64 yd) (.int .i64 yn) (.int .i64 yt)
          obtain ⟨g0, g1, g2, _, _, _⟩ := blk3 kF
          have t6 : Turn [R] w w6 := Turn.of_below (HB0.out.trans ((HB1.out.trans (HB6.out.mono (by omega))).mono (by omega)))
          have t7 := t6.trans (Turn.cell1 w6 R 0 (.slice a2 (dropS S yn).length cap2))
          have k7 := turn3 (w6.setCell ⟨R, 0, none⟩ (.slice a2 (dropS S yn).length cap2)) w.heap.size (.int .i64 yd) (.int .i64 yn) (.int .i64 yt)
          have hX := HXl.out
          have HFin : Hid (RDropEnd w R (some ⟨b, o, none⟩) S N yn (.returned (.tuple #[.agg #[.int .i64 yd, .int .i64 yn, .int .i64 yt], .int .i64 0])) _) := ⟨by rw [HG.out]; rfl, rg_set H.out ((HSl.out.turn (Turn.cell1 w6 R 0 _) (fun x e => by have := (hX x e).1; rw [List.mem_singleton]; omega)).turn k7 (fun x e => by have := (hX x e).1; rw [List.mem_singleton]; omega)) (fun x e => by have := (hX x e).1; omega) (t7.over k7 (by simp)) (far3 (HKR6.out.set 0 _) (by omega) _ _ _) (fun x e => by have := (hX x e).1; right; omega)⟩
          clear t6 t7 k7 hX kF
          refine bodyPost_ret (v := .tuple #[.agg #[.int .i64 yd, .int .i64 yn, .int .i64 yt], .int .i64 0]) (by simp [results, Try.results14, go_sem, g0, g1, g2]) rfl ?_
          exact HFin.out
      · have e1 : (yn == no) = false := by rw [beq_eq_false_iff_ne]; exact he
        have HN : (∀ i, i < j + 1 → ∀ z, S[i]? = some z → z.n ≠ no) ∧ True := ⟨fun i hi z hz => by
          rcases Nat.lt_or_ge i j with h | h
          · exact HQ.out.1 i h z hz
          · obtain rfl : i = j := by omega
            rw [hx] at hz
            cases hz
            exact he, trivial⟩
        have HN := Lib.hid HN
        clear he hx hy hR HQ
        go_wp2_with fail
        go_roundw
        case rel => exact ⟨j + 1, by omega, by go_num, HN⟩
        case measure => simp [intOf]; omega
    · have HG : Hid (getO S no = none) := getO_none.2 (fun z hz => by
        obtain ⟨i, hi, e⟩ := List.getElem_of_mem hz
        exact HQ.out.1 i (by omega) z (by rw [List.getElem?_eq_getElem hi, e]))
      have HD : Hid (dropS S no = S) := List.filter_eq_self.2 fun z hz => by simpa using getO_none.1 HG.out z hz
      have e1 : decide ((j : Int) < (S.length : Int)) = false := decide_eq_false (by omega)
      obtain ⟨r0, r1, r2, rf0, rf1, rf2⟩ := blk3 HKR.out
      have kF := fin3 HKR.out (.int .i64 0) (.int .i64 0) (.int .i64 0)
      obtain ⟨g0, g1, g2, _, _, _⟩ := blk3 kF
      have k7 := turn3 w0 w.heap.size (.int .i64 0) (.int .i64 0) (.int .i64 0)
      have hl := H.out.sl.lt
      have HFin : Hid (RDropEnd w R a S N no (.returned (.tuple #[.agg #[.int .i64 0, .int .i64 0, .int .i64 0], .int .i64 16])) _) := ⟨by rw [HG.out]; rfl, by rw [HD.out]; exact rg_set H.out (H0.out.sl.turn k7 (fun x e => by have := hl x e; rw [List.mem_singleton]; omega)) H.out.ne ((Turn.of_below HB0.out).over k7 (by simp)) (far3 H0.out.blk (by omega) _ _ _) (fun x e => .inl ⟨x, e, rfl⟩)⟩
      clear kF k7 hl HQ
      go_wp2_with fail
      refine bodyPost_ret (v := .tuple #[.agg #[.int .i64 0, .int .i64 0, .int .i64 0], .int .i64 16]) (by simp [results, Try.results14, go_sem, g0, g1, g2]) rfl ?_
      exact HFin.out

end Go.Proofs.Ytgcncnmkfpfccaa
