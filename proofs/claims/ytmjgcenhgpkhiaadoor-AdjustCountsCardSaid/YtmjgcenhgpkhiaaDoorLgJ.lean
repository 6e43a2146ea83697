/- Package ledger: Live. -/
import Derived.Test.YtmjgcenhgpkhiaaDoorLgH
import Derived.Test.YtmjgcenhgpkhiaaDoorMgD
namespace Go.Proofs.YtmjgcenhgpkhiaaDoor
open Go.RowKit Go.Sort Go.Shelf
set_option linter.unusedVariables false
set_option linter.unusedSimpArgs false
attribute [local go_sem] Oper.semAt_some

/-- The live entries of a contract. -/
def keepB (L : List EnP) (con : Int) (z : Int × EnP) : Bool := (revI L z.1).isNone && decide (z.2.s.ref = -1) && decide (z.2.s.con = con)
def liveP (L : List EnP) (con : Int) : List (Int × EnP) := (idxP L).filter (keepB L con)
/-- The iterator's captured ledger. -/
def LiveAt (w : World) (n₀ Bc : Nat) (E : List En) : Prop :=
  ∃ pv, ∀ W, RowKit.Below n₀ w W → Blk W Bc #[pv] 49 ∧ (Calls Tryd.prog 45 #[pv] W (SeqAEnd W E)) ∧ ∀ no, (Lit.int .i64 no).wf = true → Calls Tryd.prog 46 #[pv, .int .i64 no] W (RevIs W (revI (E.map En.p) no))
theorem Kept.narrow {n₀ lo hi hi' : Nat} {A B : World} (h : Kept n₀ lo hi A B) (hh : hi' ≤ hi) : Kept n₀ lo hi' A B := ⟨h.be, fun k o h1 h2 => h.mid k o h1 (by omega)⟩
theorem Kept.blk {n₀ lo hi B : Nat} {cs : Array Value} {T : TypeId} {A C : World} (h : Kept n₀ lo hi A C) (hB : Blk A B cs T) (h1 : lo ≤ B) (h2 : B < hi) : Blk C B cs T := h.mid B _ h1 h2 hB (.inl ⟨_, _, _, rfl⟩)
/-- What Live has given so far. -/
structure LvI (E : List En) (con : Int) (n₀ lo : Nat) (J : Nat → List (Int × En) → World → Prop) (w2 : World) (m : Nat) (pre : List (Int × En)) (A : World) : Prop where
  j : ∃ xs, xs.map prI = (pre.map prI).filter (keepB (E.map En.p) con) ∧ xs.length ≤ pre.length ∧ J m xs A
  k : Kept n₀ lo m w2 A
  m2 : w2.heap.size + 2 ≤ m
  mz : m ≤ A.heap.size
theorem LvI.own {E : List En} {con : Int} {n₀ lo B : Nat} {J : Nat → List (Int × En) → World → Prop} {w2 : World} {m : Nat} (hJ : OwnFrom B (J m)) (hB : B ≤ w2.heap.size) (hn : n₀ ≤ w2.heap.size) : OwnFrom w2.heap.size (LvI E con n₀ lo J w2 m) := fun pre A A' row h hg hr => by
  obtain ⟨xs, h1, h2, h3⟩ := h.j
  refine ⟨⟨xs, h1, h2, hJ xs A A' row h3 hg (fun r e => ⟨Nat.le_trans hB (hr r e).1, (hr r e).2⟩)⟩, ⟨h.k.be.grown hg (by have := h.k.be.size; omega) (fun r e => Nat.le_trans hn (hr r e).1), fun k o g1 g2 g3 g4 => ?_⟩, h.m2, Nat.le_trans h.mz hg.size⟩
  have g5 := h.k.mid k o g1 g2 g3 g4
  exact (hg.block k (Array.getElem?_eq_some_iff.1 g5).1 (fun e => by have := (hr k e.symm).1; have := (Array.getElem?_eq_some_iff.1 g3).1; omega)).trans g5
set_option maxRecDepth 100000 in
set_option maxHeartbeats 8000000 in
theorem live_tells (n : Nat) (hn : 2 ≤ n) (n₀ Bc Bk : Nat) (E : List En) (con : Int) (hl : E.length ≤ 1000000) (hln : ∀ e ∈ E, ∀ x, e.a = some x → 0 < e.ls.length → x.block < n₀) (w0 : World) (h0 : LiveAt w0 n₀ Bc E) (hk0 : ∀ W, RowKit.Below n₀ w0 W → Blk W Bk #[.int .i64 con] 3) (hn0 : n₀ ≤ w0.heap.size) :
    SeqTells Fence.wide n Tryd.prog 44 #[.pointer (some ⟨Bc, 0, none⟩), .pointer (some ⟨Bk, 0, none⟩)] encIE (fun z W => FactIE n₀ z W ∧ keepB (E.map En.p) con (prI z) = true) (Kept n₀) (fun xs => xs.map prI = liveP (E.map En.p) con) (fun _ => True) E.length w0 := fun l J Jx W hW hJ hJx hY hJ0 => by
  obtain ⟨pv, hA⟩ := h0
  have HA := Lib.hid (fun W1 (h1 : RowKit.Below n₀ W W1) => hA W1 ((hW.mono hn0).trans h1))
  have HK := Lib.hid (fun W1 (h1 : RowKit.Below n₀ W W1) => hk0 W1 ((hW.mono hn0).trans h1))
  have zW := hW.size
  obtain ⟨w1, hw1⟩ : ∃ w1, W.alloc (.cells #[.func (.yield l) #[] #[]] 104) = w1 := ⟨_, rfl⟩
  have hb1 : RowKit.Below W.heap.size W w1 := by rw [← hw1]; exact (RowKit.Below.refl _ _).alloc (Nat.le_refl _) _
  have z1 : w1.heap.size = W.heap.size + 1 := by rw [← hw1]; simp
  have k1 : Blk w1 W.heap.size #[.func (.yield l) #[] #[]] 104 := by rw [← hw1]; exact Blk.new _ _ _
  have hB1 : RowKit.Below n₀ W w1 := hb1.mono (by omega)
  have c0 : w1.cell? ⟨Bc, 0, none⟩ = some pv := (HA.out w1 hB1).1.cell 0 rfl
  have HAl := Lib.hid (HA.out w1 hB1).2.1
  have HB1 := Lib.hid hb1
  have HK1 := Lib.hid k1
  have HJ0 := Lib.hid hJ0
  clear hA hk0 hJ0 k1 hb1 hB1
  refine callsIn_of_wp_marks Tryd.func44 rfl trivial ?_ rfl
  simp only [Tryd.ntmps44, List.size_toArray, List.length_cons, List.length_nil, Nat.reduceAdd, Nat.reduceSub, Array.replicate_succ, Array.replicate_zero, List.push_toArray, List.append_toArray, List.nil_append, List.cons_append]
  refine wpIn_wide.2 ?_
  go_wp2_with fail
  first
    | (refine wp_scope_straight ?_; apply wp_seq; apply wp_label)
    | (apply wp_seq; apply wp_label)
  go_wp2_with fail
  with_reducible refine HAl.out.mono ?_
  rintro e w2 ⟨Ba, pv2, rfl, hkA, hb2, hBa, hx2⟩
  clear hw1 c0
  go_wp2_with fail
  have z2 := hb2.size
  have hb2W : RowKit.Below W.heap.size W w2 := HB1.out.trans (hb2.mono (by omega))
  have hBn : RowKit.Below n₀ W w2 := hb2W.mono (by omega)
  have hkY : Blk w2 W.heap.size #[.func (.yield l) #[] #[]] 104 := HK1.out.after hb2
  have hAll : AllIn (fun A => Kept n₀ W.heap.size w2.heap.size w2 A) Ba E := ⟨pv2, fun A hA => by
    have hb : Blk A Ba #[pv2] 49 := hA.blk hkA (by omega) hkA.lt
    rcases hx2 with ⟨rfl, rfl⟩ | ⟨p1, bm1, a1, c1, rfl, hL, g1, g2, g3⟩
    · exact ⟨hb, llen_nil A, fun j x hj => by simp at hj⟩
    · have hLA : LgAt A p1 bm1 a1 c1 E := hL.between hA ⟨by omega, hL.blk.lt⟩ ⟨by omega, hL.map.lt⟩ (fun x e => ⟨by have := g3 x e; omega, hL.sl.lt x e⟩) hln
      exact ⟨hb, llen_ok p1 bm1 a1 c1 E A hLA, fun j x hx => lent_in p1 bm1 a1 c1 E A hLA hl j x hx⟩⟩
  have hseq := all_tells (n - 1) (by omega) n₀ Ba E hl w2 (fun _ m A B => Kept n₀ W.heap.size m A B) (fun A => Kept n₀ W.heap.size w2.heap.size w2 A) (fun A hA => Kept.of_below hA (by omega)) (fun A B hA hB => hA.trans (Kept.of_below hB (by have := hA.be.size; omega))) (fun lo m A B hm hA hB => hA.trans (hB.narrow hm)) hAll (fun A hA => by have := hA.be.size; omega)
  refine wpIn_wide (n := n) |>.1 ?_
  refine wpIn_range_tells rfl (by omega) (gf := 60) (lb := #[.pointer (some ⟨Ba, 0, none⟩)]) rfl trivial (enters_of Tryd.func60 (by kernel_rfl) rfl) hseq
    (fun m A B C h k => h.trans k) (fun m A B hA hb => Kept.of_below hb (by omega)) (fun m A l r o' hl h => Kept.put h (by omega) (not_plain_loop r)) (RowKit.Below.refl _ _) (fun _ => rfl)
    (LvI E con n₀ W.heap.size J w2) (fun _ A => ∃ xs, Jx xs A) (fun m => LvI.own (hJ m) (by omega) (by omega)) (fun pre A A' row h hg hr => by
      obtain ⟨xs, h⟩ := h
      exact ⟨xs, hJx xs A A' row h hg (fun r e => ⟨by have := (hr r e).1; omega, (hr r e).2⟩)⟩)
    (fun m A hA hm hmA => ⟨⟨[], rfl, Nat.le_refl _, HJ0.out m A (hb2W.trans (hA.mono (by omega))) (by omega) hmA⟩, Kept.of_below hA (by omega), hm, hmA⟩) (fun m pre A h => h.mz) (fun x => FactIE.own _ _ x)
    26 (fun z => z.2.cs)
    (fun z Bx => { tmps := #[.func (.yield l) #[] #[], .pointer (some ⟨Bc, 0, none⟩), .pointer (some ⟨Bk, 0, none⟩), .pointer (some ⟨W.heap.size, 0, none⟩), .int .i64 z.1, .pointer (some ⟨Bx, 0, none⟩), undef, undef, pv, .func (.func 60) #[] #[.pointer (some ⟨Ba, 0, none⟩)], .int .i64 z.1, entV z.2.s z.2.a z.2.ls.length z.2.cap, undef, undef, undef, undef, undef, undef, undef, undef, undef, undef, undef, undef, undef, undef, undef, undef, undef, undef, undef, undef, undef, undef, undef, undef], defers := [] })
    ?assign ?body ?done ?stop
  case assign =>
    intro l pre x A K hA hK
    have hK' := Lib.hid hK
    clear hK hAll hseq hkA hkY hb2 hb2W hBn HA HK
    obtain ⟨k, ⟨xcon, xday, xcur, xseq, xper, xref⟩, xa, xcap, ls⟩ := x
    dsimp only [encIE, entV, En.cs] at hK' ⊢
    gi_wp2_with fail
    simpa using hK'.out
  case body =>
    rintro l' m pre x Bx A hl1 hl2 hm2 ⟨r, hr⟩ hI hF hX hlt
    have hBA : RowKit.Below n₀ W A := hBn.trans hI.k.be
    have c0 : A.cell? ⟨Bc, 0, none⟩ = some pv := (HA.out A hBA).1.cell 0 rfl
    have ck : A.cell? ⟨Bk, 0, none⟩ = some (.int .i64 con) := (HK.out A hBA).cell 0 rfl
    have cy : A.cell? ⟨W.heap.size, 0, none⟩ = some (.func (.yield l) #[] #[]) := (hI.k.blk hkY (Nat.le_refl _) (by omega)).cell 0 rfl
    have hrv := (HA.out A hBA).2.2 x.1 hF.wf
    have HI := Lib.hid hI
    have HF := Lib.hid hF
    have HY : Hid (∀ xs, keepB (E.map En.p) con (prI x) = true → J m xs A → xs.length < E.length → YieldAt Fence.wide (n - 1) Tryd.prog l (encIE x) A fun e W' => (e = .returned (.bool true) ∧ J m (xs ++ [x]) W' ∧ Kept n₀ W.heap.size m A W' ∧ KeepsFrom W.heap.size A W') ∨ (e = .returned (.bool false) ∧ Jx (xs ++ [x]) W' ∧ KeepsFrom W.heap.size A W')) := fun xs hkb hj hlx => hY m xs x A (by omega) hj ⟨hF, hkb⟩ hlx
    obtain ⟨k, ⟨xcon, xday, xcur, xseq, xper, xref⟩, xa, xcap, ls⟩ := x
    dsimp only [En.cs, encIE] at hX hrv ⊢
    obtain ⟨r0, hr0⟩ : ∃ r0, revI (E.map En.p) k = r0 := ⟨_, rfl⟩
    rw [hr0] at hrv
    have HRv := Lib.hid hrv
    have HR0 := Lib.hid hr0
    have x0 : A.cell? ⟨Bx, 0, none⟩ = some (.int .i64 xcon) := hX.cell 0 rfl
    have x1 : A.cell? ⟨Bx, 1, none⟩ = some (.int .i64 xday) := hX.cell 1 rfl
    have x2 : A.cell? ⟨Bx, 2, none⟩ = some (.int .i64 xcur) := hX.cell 2 rfl
    have x3 : A.cell? ⟨Bx, 3, none⟩ = some (.int .i64 xseq) := hX.cell 3 rfl
    have x4 : A.cell? ⟨Bx, 4, none⟩ = some (.int .i64 xper) := hX.cell 4 rfl
    have x5 : A.cell? ⟨Bx, 5, none⟩ = some (.int .i64 xref) := hX.cell 5 rfl
    have x6 : A.cell? ⟨Bx, 6, none⟩ = some (.slice xa ls.length xcap) := hX.cell 6 rfl
    clear hI hF hX hr hr0 hrv hBA hY hAll hseq hkA hkY hb2 hb2W hBn HA HK HJ0
    gi_wp2_with fail
    refine ⟨trivial, fun h => (by cases h), ?_⟩
    with_reducible refine (CallsIn.inRound l' (callsIn_wide.2 HRv.out)).mono ?_
    rintro e A2 ⟨rfl, hA2⟩
    obtain rfl : A = A2 := hA2.symm
    clear HRv
    cases r0 with
    | some i0 =>
      dsimp only
      have HFin : Hid (KeepsFrom w2.heap.size A A ∧ Kept n₀ W.heap.size m A A ∧ LvI E con n₀ W.heap.size J w2 m (pre ++ [(k, ⟨⟨xcon, xday, xcur, xseq, xper, xref⟩, xa, xcap, ls⟩)]) A) := by
        obtain ⟨xs, h1, h2, h3⟩ := HI.out.j
        refine ⟨⟨Nat.le_refl _, fun q o _ hq _ => hq⟩, ⟨RowKit.Below.refl _ _, fun q o _ _ hq _ => hq⟩, ⟨xs, ?_, by simp; omega, h3⟩, HI.out.k, HI.out.m2, HI.out.mz⟩
        rw [List.map_append, List.filter_append, ← h1]
        show _ = _ ++ List.filter _ [(k, (⟨⟨xcon, xday, xcur, xseq, xper, xref⟩, ls⟩ : EnP))]
        rw [List.filter_cons_of_neg (by unfold keepB; simp [HR0.out]), List.filter_nil, List.append_nil]
      skip
      clear HI HF HY
      gi_wp2_with fail
      exact HFin.out
    | none =>
      dsimp only
      by_cases hrf : xref = -1
      · subst hrf
        by_cases hcn : con = xcon
        · subst hcn
          have hk1 : keepB (E.map En.p) con (k, (⟨⟨con, xday, xcur, xseq, xper, -1⟩, ls⟩ : EnP)) = true := by unfold keepB; simp [HR0.out]
          obtain ⟨xs, h1, h2, h3⟩ := HI.out.j
          obtain ⟨fn, tmps, assign, body, hy, hR3⟩ := HY.out xs hk1 h3 (by omega)
          dsimp only [encIE, entV] at hy
          have HR3 := Lib.hid (roundIn_any (m' := n - 1 - 1 - 1) (l' := l') hR3)
          have HH1 := Lib.hid h1
          have HK1 := Lib.hid hk1
          clear h1 h3 hR3 hk1 HY
          gi_wp2_with fail

          refine ⟨fun h => (by cases h), HR3.out.mono ?_⟩
          rintro e A3 (⟨rfl, hJ3, hk3, hkf3⟩ | ⟨rfl, hJ3, hkf3⟩)
          · have HFin : Hid (KeepsFrom w2.heap.size A A3 ∧ Kept n₀ W.heap.size m A A3 ∧ LvI E con n₀ W.heap.size J w2 m (pre ++ [(k, ⟨⟨con, xday, xcur, xseq, xper, -1⟩, xa, xcap, ls⟩)]) A3) := by
              refine ⟨⟨hkf3.size, fun q o hq h ho => hkf3.same q o (by omega) h ho⟩, hk3, ⟨_, ?_, ?_, hJ3⟩, HI.out.k.trans hk3, HI.out.m2, Nat.le_trans HI.out.mz hkf3.size⟩
              · rw [List.map_append, List.map_append, List.filter_append, ← HH1.out]
                show _ ++ [(k, (⟨⟨con, xday, xcur, xseq, xper, -1⟩, ls⟩ : EnP))] = _ ++ List.filter _ [(k, (⟨⟨con, xday, xcur, xseq, xper, -1⟩, ls⟩ : EnP))]
                rw [List.filter_cons_of_pos HK1.out, List.filter_nil]
              · simp; omega
            clear hJ3 hk3 hkf3
            gi_wp2_with fail
            exact HFin.out
          · have HFin : Hid (KeepsFrom w2.heap.size A A3 ∧ ∃ xs, Jx xs A3) := ⟨⟨hkf3.size, fun q o hq h ho => hkf3.same q o (by omega) h ho⟩, _, hJ3⟩
            clear hJ3 hkf3
            gi_wp2_with fail
            exact ⟨HFin.out.1, rfl, HFin.out.2⟩
        · have d2 : (xcon == con) = false := by rw [beq_eq_false_iff_ne]; exact fun e => hcn e.symm
          have HFin : Hid (KeepsFrom w2.heap.size A A ∧ Kept n₀ W.heap.size m A A ∧ LvI E con n₀ W.heap.size J w2 m (pre ++ [(k, ⟨⟨xcon, xday, xcur, xseq, xper, -1⟩, xa, xcap, ls⟩)]) A) := by
            obtain ⟨xs, h1, h2, h3⟩ := HI.out.j
            refine ⟨⟨Nat.le_refl _, fun q o _ hq _ => hq⟩, ⟨RowKit.Below.refl _ _, fun q o _ _ hq _ => hq⟩, ⟨xs, ?_, by simp; omega, h3⟩, HI.out.k, HI.out.m2, HI.out.mz⟩
            rw [List.map_append, List.filter_append, ← h1]
            show _ = _ ++ List.filter _ [(k, (⟨⟨xcon, xday, xcur, xseq, xper, -1⟩, ls⟩ : EnP))]
            rw [List.filter_cons_of_neg (by unfold keepB; simp [Ne.symm hcn]), List.filter_nil, List.append_nil]
          clear hcn
          clear HI HF HY
          gi_wp2_with fail
          exact HFin.out
      · have d1 : (xref == -1) = false := by rw [beq_eq_false_iff_ne]; exact hrf
        have HFin : Hid (KeepsFrom w2.heap.size A A ∧ Kept n₀ W.heap.size m A A ∧ LvI E con n₀ W.heap.size J w2 m (pre ++ [(k, ⟨⟨xcon, xday, xcur, xseq, xper, xref⟩, xa, xcap, ls⟩)]) A) := by
          obtain ⟨xs, h1, h2, h3⟩ := HI.out.j
          refine ⟨⟨Nat.le_refl _, fun q o _ hq _ => hq⟩, ⟨RowKit.Below.refl _ _, fun q o _ _ hq _ => hq⟩, ⟨xs, ?_, by simp; omega, h3⟩, HI.out.k, HI.out.m2, HI.out.mz⟩
          rw [List.map_append, List.filter_append, ← h1]
          show _ = _ ++ List.filter _ [(k, (⟨⟨xcon, xday, xcur, xseq, xper, xref⟩, ls⟩ : EnP))]
          rw [List.filter_cons_of_neg (by unfold keepB; simp [hrf]), List.filter_nil, List.append_nil]
        clear hrf
        clear HI HF HY
        gi_wp2_with fail
        exact HFin.out
  case done =>
    rintro D m zs A hD hDm hzs hI hK
    obtain ⟨xs, h1, h2, h3⟩ := hI.j
    have hDl : D < A.heap.size := (Array.getElem?_eq_some_iff.1 hK).1
    have HFin : Hid ((∃ m xs, xs.map prI = liveP (E.map En.p) con ∧ J m xs (A.putObj D (.deferred none)))) := ⟨m, xs, by rw [h1, hzs]; rfl, (hJ m).putObj _ h3 (by omega) hK rfl⟩
    have HK' := Lib.hid hK
    clear hI h1 h3 hK hAll hseq hkA hkY hb2 hb2W hBn HA HK HJ0
    go_wp2_with fail
    dsimp only [Exit.noGoto]
    refine ⟨by simp, .inl ⟨_, _, rfl, run_takeDeferred HK'.out, ?_⟩⟩
    exact ⟨.tuple #[], by simp [results, Tryd.results44, go_sem], ⟨_, rfl⟩, .inl HFin.out⟩
  case stop =>
    rintro D pre A hD _ hI hK
    obtain ⟨xs, h3⟩ := hI
    have hDl : D < A.heap.size := (Array.getElem?_eq_some_iff.1 hK).1
    have HFin : Hid (∃ pre, True ∧ Jx pre (A.putObj D (.deferred none))) := ⟨xs, trivial, hJx.putObj _ h3 (by omega) hK rfl⟩
    have HK' := Lib.hid hK
    clear hK hAll hseq hkA hkY hb2 hb2W hBn HA HK HJ0 h3
    refine wpIn_wide.2 ?_
    go_wp2_with fail
    refine ⟨by simp, .inl ⟨_, _, rfl, run_takeDeferred HK'.out, ?_⟩⟩
    exact ⟨.tuple #[], by simp [results, Tryd.results44, go_sem], ⟨_, rfl⟩, .inr HFin.out⟩

end Go.Proofs.YtmjgcenhgpkhiaaDoor
