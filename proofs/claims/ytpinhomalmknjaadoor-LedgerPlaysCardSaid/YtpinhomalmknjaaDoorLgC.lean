/- Package ledger: slices.Clone of entries, Copy, Entry. -/
import Derived.Test.YtpinhomalmknjaaDoorLgB
namespace Go.Proofs.YtpinhomalmknjaaDoor
open Go.RowKit Go.Sort Go.Shelf
set_option linter.unusedVariables false
set_option linter.unusedSimpArgs false

def CloneEEnd (E : List En) (w : World) (e : Ending) (w' : World) : Prop :=
  ∃ v, e = .returned v ∧ w'.ownsRow w.heap.size 27 7 v E.length (cellsL En.cs E) ∧ Below w.heap.size w w'
theorem cloneE_ok (a : Option Addr) (cap : Nat) (E : List En) (w : World) (h : SlAt w 7 En.cs a cap E) (hl : E.length ≤ 1000000) :
    Calls Tryd.prog 53 #[.slice a E.length cap] w (CloneEEnd E w) := by
  obtain ⟨i0, hi, hz0, hz1, hz2⟩ := info_parts infoEnt
  have heq := fun (w : World) (a : Option Addr) (n c : Nat) => Lib.run_eql_slice_nil (P := Tryd.prog) w 42 27 a n c 0 0 Tryd.underlying42
  cases a with
  | none =>
    obtain ⟨_, rfl, rfl⟩ : none = none ∧ E = [] ∧ cap = 0 := by
      rcases h.sh with h | ⟨b, o, e, _⟩
      · exact h
      · cases e
    clear h
    go_enter Tryd.func53, Tryd.ntmps53
    go_wp2
    go_ret
    exact ⟨_, rfl, World.ownsRow_nil _ _ _ _, Below.refl _ _⟩
  | some x =>
    have HC : Hid (∀ (o : Obj) (j : Nat) (u : Value), (cellsL En.cs E)[j]? = some u → (w.alloc o).cell? (x.add j) = some u) := fun o j u hu => (h.after ((Below.refl w.heap.size w).alloc (Nat.le_refl _) o)).recs.src En.cs_len rfl j u hu
    have hlen := cellsL_len (enc := En.cs) (size := 7) En.cs_len E
    have HLn := Lib.hid hlen
    clear h hlen
    go_enter Tryd.func53, Tryd.ntmps53
    go_wp2_with (at_builtin; refine wpList_append_own _ rfl _ _ 42 rfl w.heap.size 27 i0 _ 7 72 Tryd.underlying42 hi hz0 hz1 hz2 rfl (by decide) _ 0 [] rfl (World.ownsRow_lit _ #[] 0 (Nat.le_refl _) (by unfold maxLen; omega) rfl) x E.length cap (cellsL En.cs E) rfl HLn.out (HC.out _) (cellsL_one En.cs_one E) (by unfold maxLen; omega) (by omega) (by simp) ?_; intro v' w1 hown' hgrow _)
    rw [Nat.zero_add, List.nil_append] at hown'
    have hb : Below w.heap.size w w1 := ((Below.refl _ _).alloc (Nat.le_refl _) _).grown hgrow (by simp) (fun q e => by cases e; exact Nat.le_refl _)
    go_wp2_with fail
    go_ret
    exact ⟨_, rfl, hown', hb⟩

def CopyEnd (w : World) (E : List En) (e : Ending) (w' : World) : Prop :=
  ∃ p bm a cap, e = .returned (.pointer (some ⟨p, 0, none⟩)) ∧ LgAt w' p bm a cap E ∧ w'.ownsRow w.heap.size 27 7 (.slice a E.length cap) E.length (cellsL En.cs E) ∧ Below w.heap.size w w' ∧ w.heap.size ≤ p ∧ w.heap.size ≤ bm
theorem CopyEnd.lg {w w' : World} {E : List En} {e : Ending} (h : CopyEnd w E e w') : LgEnd w E e w' := by
  obtain ⟨p, bm, a, cap, h1, h2, _, h3, h4, h5⟩ := h
  exact ⟨p, bm, a, cap, h1, h2, h3, h4, h5⟩
def CloneMEnd (W : World) (M : List (Value × Value)) (e : Ending) (w' : World) : Prop :=
  ∃ b, e = .returned (.map (some b)) ∧ MapAt OkN w' b M ∧ Below W.heap.size W w' ∧ W.heap.size ≤ b
theorem cloneB_ok (B : Nat) (M : List (Value × Value)) (w : World) (h : MapAt OkN w B M) :
    Calls Tryd.prog 54 #[.map (some B)] w (CloneMEnd w M) := by
  obtain ⟨es, clock, hb, he⟩ := h
  have hcon : Calls Tryd.prog 54 _ _ _ := Go.Proofs.AnyW.maps_Clone Tryd.cloneB B es clock w hb
  refine hcon.mono ?_
  rintro e w' ⟨rfl, rfl⟩
  exact ⟨w.heap.size, rfl, ⟨es, clock, (MapKept.heap_alloc w _).1, he⟩, (Below.refl _ _).alloc (Nat.le_refl _) _, Nat.le_refl _⟩
set_option maxHeartbeats 4000000 in
theorem lcopy_ok (p bm : Nat) (a : Option Addr) (cap : Nat) (E : List En) (w : World) (h : LgAt w p bm a cap E) (hl : E.length ≤ 1000000) :
    Calls Tryd.prog 29 #[.pointer (some ⟨p, 0, none⟩)] w (CopyEnd w E) := by
  have HF := Lib.hid h
  have HCE : Hid (∀ W, Below w.heap.size w W → Calls Tryd.prog 53 #[.slice a E.length cap] W (CloneEEnd E W)) := fun W hW => cloneE_ok a cap E W (HF.out.after hW).sl hl
  have HCM : Hid (∀ W, Below w.heap.size w W → Calls Tryd.prog 54 #[.map (some bm)] W (CloneMEnd W (byM (E.map En.p)))) := fun W hW => cloneB_ok bm _ W (HF.out.after hW).map
  have HS : Hid (∀ w' : World, Below w.heap.size w w' → w'.cell? ⟨p, 0, none⟩ = some (.slice a E.length cap) ∧ w'.cell? ⟨p, 1, none⟩ = some (.map (some bm))) := fun w' hW => ⟨(HF.out.after hW).blk.cell 0 rfl, (HF.out.after hW).blk.cell 1 rfl⟩
  clear h
  go_enter Tryd.func29, Tryd.ntmps29
  go_wp2_with fail
  go_region_held3 (fun w' => w'.cell? ⟨p, 0, none⟩ = some (.slice a E.length cap) ∧ w'.cell? ⟨p, 1, none⟩ = some (.map (some bm)))
    (first | with_reducible exact HS.out _ (Below.refl _ _).drew | with_reducible exact HS.out _ hB5 | with_reducible exact HS.out _ hB6 | go_keep)
    (first
      | (go_at_call 53; (with_reducible refine (HCE.out w.drew (Below.refl _ _).drew).mono ?_); rintro e w5 ⟨v5, rfl, ho5, hb5⟩; have hB5 : Below w.heap.size w w5 := (Below.refl _ w).drew.trans hb5; have ho5' : w5.ownsRow w.heap.size 27 7 v5 E.length (cellsL En.cs E) := ho5; obtain ⟨a5, c5, rfl, hs5, hx5⟩ := sl_own (enc := En.cs) En.cs_len ho5')
      | (go_at_call 54; (with_reducible refine (HCM.out w.drew (Below.refl _ _).drew).mono ?_); rintro e w6 ⟨b6, rfl, hm6, hb6, hz6⟩; have hB6 : Below w.heap.size w w6 := (Below.refl _ w).drew.trans hb6)
      | (go_at_call 53; (with_reducible refine (HCE.out _ hB6).mono ?_); rintro e w5 ⟨v5, rfl, ho5, hb5⟩; have hB5 : Below w.heap.size w w5 := hB6.trans (hb5.mono hB6.size); have ho5' := own_base ho5 hB6.size; obtain ⟨a5, c5, rfl, hs5, hx5⟩ := sl_own (enc := En.cs) En.cs_len ho5')
      | (go_at_call 54; (with_reducible refine (HCM.out _ hB5).mono ?_); rintro e w6 ⟨b6, rfl, hm6, hb6, hz6⟩; have hB6 : Below w.heap.size w w6 := hB5.trans (hb6.mono hB5.size)))
  have ha : Below w6.heap.size w6 (w6.alloc (.cells #[.slice a5 E.length c5, .map (some b6)] 78)) := (Below.refl _ _).alloc (Nat.le_refl _) _
  have z5 := hB5.size
  have z6 := hB6.size
  have hO : Hid ((w6.alloc (.cells #[.slice a5 E.length c5, .map (some b6)] 78)).ownsRow w.heap.size 27 7 (.slice a5 E.length c5) E.length (cellsL En.cs E)) := own_after (own_after ho5' hb6) ha
  have hFIN : Hid (LgAt (w6.alloc (.cells #[.slice a5 E.length c5, .map (some b6)] 78)) w6.heap.size b6 a5 c5 E) :=
    ⟨Blk.new _ _ _, (hs5.after hb6).after ha, fun e he => (HF.out.ok e he).after (hB6.trans (ha.mono z6)), hm6.after ha⟩
  have HBF := Lib.hid (hB6.trans (ha.mono z6))
  have hz : w.heap.size ≤ b6 := by have := hb6.size; omega
  clear hm6 hb5 hb6 hB5 hB6 ha hs5 hx5 ho5 ho5'
  go_wp2_with fail
  go_ret
  exact ⟨w6.heap.size, b6, a5, c5, rfl, hFIN.out, hO.out, HBF.out, by omega, by omega⟩
theorem lcopy_nil (w : World) : Calls Tryd.prog 29 #[.pointer none] w fun e w' => e = .returned (.pointer none) ∧ w' = w := by
  go_enter Tryd.func29, Tryd.ntmps29
  go_wp2_with fail
  go_ret
  exact ⟨rfl, rfl⟩

/-- The lines of an entry lie in a block of lines. -/
def TyLn (w : World) (a : Option Addr) : Prop := ∀ y, a = some y → ∃ cs fr, w.heap[y.block]? = some (.cells cs 101 fr)
theorem TyLn.grown {w w' : World} {row : Option Nat} {a : Option Addr} (h : TyLn w a) (hg : w.grownBy w' row) (hr : ∀ x, a = some x → row ≠ some x.block) : TyLn w' a := fun y e => by
  obtain ⟨cs, fr, hb⟩ := h y e
  exact ⟨cs, fr, (hg.block _ (Array.getElem?_eq_some_iff.1 hb).1 (fun e1 => hr y e e1.symm)).trans hb⟩
theorem TyLn.after {w w' : World} {a : Option Addr} (h : TyLn w a) (hb : Below w.heap.size w w') : TyLn w' a := h.grown (below_row hb none) (by simp)
def EntEnd (w : World) (x : EnP) (e : Ending) (w' : World) : Prop :=
  ∃ c cap, e = .returned (.tuple #[entV x.s c x.ls.length cap, .int .i64 0]) ∧ EnOk w' ⟨x.s, c, cap, x.ls⟩ ∧ Below w.heap.size w w' ∧ (∀ y, c = some y → w.heap.size ≤ y.block) ∧ TyLn w' c
set_option maxHeartbeats 4000000 in
theorem lent_in (p bm : Nat) (a : Option Addr) (cap : Nat) (E : List En) (w : World) (h : LgAt w p bm a cap E) (hl : E.length ≤ 1000000) (j : Nat) (x : En) (hx : E[j]? = some x) :
    Calls Tryd.prog 21 #[.pointer (some ⟨p, 0, none⟩), .int .i64 (j : Int)] w (EntEnd w x.p) := by
  obtain ⟨hlt, hxe⟩ := List.getElem?_eq_some_iff.1 hx
  have hX := h.ok x (by rw [← hxe]; exact List.getElem_mem _)
  obtain ⟨⟨con, day, cur, seq, per, ref⟩, la, lc, ls⟩ := x
  have hR := h.sl.recs
  obtain ⟨b, o, rfl, _⟩ := hR (by omega)
  obtain ⟨wa, hwa⟩ : ∃ wa, w.alloc (.cells (entCs zero6 none 0 0) 27) = wa := ⟨_, rfl⟩
  have hba : Below w.heap.size w wa := by rw [← hwa]; exact (Below.refl _ _).alloc (Nat.le_refl _) _
  have hza : wa.heap.size = w.heap.size + 1 := by rw [← hwa]; simp
  have HO : OBox wa w.heap.size := by rw [← hwa]; exact OBox.new _ _
  obtain ⟨wb, hwb⟩ : ∃ wb, wa.alloc (.cells (entCs ⟨con, day, cur, seq, per, ref⟩ la ls.length lc) 27) = wb := ⟨_, rfl⟩
  have hbb : Below wa.heap.size wa wb := by rw [← hwb]; exact (Below.refl _ _).alloc (Nat.le_refl _) _
  have hzb : wb.heap.size = wa.heap.size + 1 := by rw [← hwb]; simp
  have KB : Blk wb wa.heap.size (entCs ⟨con, day, cur, seq, per, ref⟩ la ls.length lc) 27 := by rw [← hwb]; exact Blk.new _ _ _
  have hbw : Below w.heap.size w wb := hba.trans (hbb.mono (by omega))
  have hLa := h.after hba
  have hRa := hLa.sl.recs
  have c0 : wa.cell? ⟨p, 0, none⟩ = some (.slice (some ⟨b, o, none⟩) E.length cap) := hLa.blk.cell 0 rfl
  have q0 : wa.cell? ⟨b, o + j * 7, none⟩ = some (.int .i64 con) := RecsAt.cell hRa rfl hlt hx (j := 0) rfl
  have q1 : wa.cell? ⟨b, o + j * 7 + 1, none⟩ = some (.int .i64 day) := RecsAt.cell hRa rfl hlt hx (j := 1) rfl
  have q2 : wa.cell? ⟨b, o + j * 7 + 2, none⟩ = some (.int .i64 cur) := RecsAt.cell hRa rfl hlt hx (j := 2) rfl
  have q3 : wa.cell? ⟨b, o + j * 7 + 3, none⟩ = some (.int .i64 seq) := RecsAt.cell hRa rfl hlt hx (j := 3) rfl
  have q4 : wa.cell? ⟨b, o + j * 7 + 4, none⟩ = some (.int .i64 per) := RecsAt.cell hRa rfl hlt hx (j := 4) rfl
  have q5 : wa.cell? ⟨b, o + j * 7 + 5, none⟩ = some (.int .i64 ref) := RecsAt.cell hRa rfl hlt hx (j := 5) rfl
  have q6 : wa.cell? ⟨b, o + j * 7 + 6, none⟩ = some (.slice la ls.length lc) := RecsAt.cell hRa rfl hlt hx (j := 6) rfl
  have k6 : wb.cell? ⟨wa.heap.size, 6, none⟩ = some (.slice la ls.length lc) := KB.cell 6 rfl
  have HC := Lib.hid (clone_ok la lc ls wb (hX.ln.after hbw) (Nat.le_trans hX.few (by omega)) (fun e => ⟨(hX.nil e).1, (hX.nil e).2⟩))
  have HOb := Lib.hid (HO.after hbb)
  have HKB := Lib.hid KB
  have HXk := Lib.hid hX
  have HZA := Lib.hid hza
  have HZB := Lib.hid hzb
  have HBW := Lib.hid hbw
  have HWB := Lib.hid hwb
  have i1 : (0 : Int) ≤ (j : Int) := by omega
  have i2 : (j : Int) < (E.length : Int) := by omega
  have g1 : decide ((j : Int) < 0) = false := decide_eq_false (by omega)
  have g2 : decide ((E.length : Int) ≤ (j : Int)) = false := decide_eq_false (by omega)
  have g3 : decide (E.length ≤ j) = false := decide_eq_false (by omega)
  unfold entCs zero6 at hwa
  clear h hx hxe hX hR hLa hRa KB HO hza hzb hbw hba hbb hwb
  go_enter Tryd.func21, Tryd.ntmps21
  go_wp2_with fail
  have hwb := HWB.out
  unfold entCs at hwb
  rw [hwb]
  clear hwa hwb
  go_wp2_with fail
  with_reducible refine HC.out.mono ?_
  rintro e w2 ⟨v2, rfl, hown, hb2⟩
  obtain ⟨c, cc, rfl, g0, hln, hcb⟩ := owned_lines hown rfl
  obtain ⟨⟨o0, o1, o2, o3, o4, o5, o6⟩, f0, f1, f2, f3, f4, f5, f6⟩ := HOb.out.after hb2
  have hk := HKB.out.after hb2
  have k0 : w2.cell? ⟨wa.heap.size, 0, none⟩ = some (.int .i64 con) := hk.cell 0 rfl
  have k1 : w2.cell? ⟨wa.heap.size, 1, none⟩ = some (.int .i64 day) := hk.cell 1 rfl
  have k2 : w2.cell? ⟨wa.heap.size, 2, none⟩ = some (.int .i64 cur) := hk.cell 2 rfl
  have k3 : w2.cell? ⟨wa.heap.size, 3, none⟩ = some (.int .i64 seq) := hk.cell 3 rfl
  have k4 : w2.cell? ⟨wa.heap.size, 4, none⟩ = some (.int .i64 per) := hk.cell 4 rfl
  have k5 : w2.cell? ⟨wa.heap.size, 5, none⟩ = some (.int .i64 ref) := hk.cell 5 rfl
  have k6 : w2.cell? ⟨wa.heap.size, 6, none⟩ = some (.slice la ls.length lc) := hk.cell 6 rfl
  have kf := hk.free 6
  have n0 : w.heap.size ≠ wa.heap.size := by have := HZA.out; omega
  have HB2 := Lib.hid hb2
  have HLN := Lib.hid hln
  have HCB := Lib.hid hcb
  have HG0 := Lib.hid g0
  have HTy : Hid (TyLn w2 c) := fun y e => by
    subst e
    obtain ⟨_, _, cur, hc⟩ := own_cells hown (g := y.block) (by rcases hown.2 with ⟨e1, _⟩ | ⟨g, cap, cur, e1, _⟩ <;> cases e1; rfl)
    exact ⟨cur, _, hc⟩
  clear hown hk hb2 hln hcb g0 q0 q1 q2 q3 q4 q5 q6 c0
  go_wp2_with fail
  refine bodyPost_ret (v := .tuple #[entV ⟨con, day, cur, seq, per, ref⟩ c ls.length cc, .int .i64 0]) ?_ rfl ?_
  · simp [results, Tryd.results21, go_sem, o0, o1, o2, o3, o4, o5, o6, entV, n0]
  · have zA := HZA.out
    have zB := HZB.out
    have z2 := HB2.out.size
    have hl3 := HLN.out.grown (grown_setCell w2 wa.heap.size 6 (.slice c ls.length cc)) (fun y e q => by have := (HCB.out y e).1; have q' := Option.some.inj q; omega)
    have hl4 := hl3.grown (grown7 _ w.heap.size (.int .i64 con) (.int .i64 day) (.int .i64 cur) (.int .i64 seq) (.int .i64 per) (.int .i64 ref) (.slice c ls.length cc)) (fun y e q => by have := (HCB.out y e).1; have q' := Option.some.inj q; omega)
    exact ⟨c, cc, rfl, ⟨hl4, HXk.out.wf, HXk.out.few, HG0.out⟩, below_set7 ((HBW.out.trans (HB2.out.mono (by omega))).setCell (p := ⟨wa.heap.size, 6, none⟩) (by show w.heap.size ≤ wa.heap.size; omega) _) (Nat.le_refl _) _ _ _ _ _ _ _, fun y e => by have := (HCB.out y e).1; omega, (HTy.out.grown (grown_setCell w2 wa.heap.size 6 (.slice c ls.length cc)) (fun y e q => by have := (HCB.out y e).1; have q' := Option.some.inj q; omega)).grown (grown7 _ w.heap.size (.int .i64 con) (.int .i64 day) (.int .i64 cur) (.int .i64 seq) (.int .i64 per) (.int .i64 ref) (.slice c ls.length cc)) (fun y e q => by have := (HCB.out y e).1; have q' := Option.some.inj q; omega)⟩
def NoEnt (w : World) (er : Int) (e : Ending) (w' : World) : Prop := e = .returned (.tuple #[entV zero6 none 0 0, .int .i64 er]) ∧ Below w.heap.size w w'
set_option maxHeartbeats 4000000 in
theorem lent_out (p bm : Nat) (a : Option Addr) (cap : Nat) (E : List En) (w : World) (h : LgAt w p bm a cap E) (no : Int) (hno : no < 0 ∨ (E.length : Int) ≤ no) :
    Calls Tryd.prog 21 #[.pointer (some ⟨p, 0, none⟩), .int .i64 no] w (NoEnt w 16) := by
  obtain ⟨wa, hwa⟩ : ∃ wa, w.alloc (.cells (entCs zero6 none 0 0) 27) = wa := ⟨_, rfl⟩
  have hba : Below w.heap.size w wa := by rw [← hwa]; exact (Below.refl _ _).alloc (Nat.le_refl _) _
  have HO : Hid (OBox wa w.heap.size) := by rw [← hwa]; exact OBox.new _ _
  have c0 : wa.cell? ⟨p, 0, none⟩ = some (.slice a E.length cap) := (h.after hba).blk.cell 0 rfl
  obtain ⟨⟨o0, o1, o2, o3, o4, o5, o6⟩, f0, f1, f2, f3, f4, f5, f6⟩ := id HO.out
  unfold entCs zero6 at hwa
  clear h
  by_cases h1 : no < 0
  · have g1 : decide (no < 0) = true := decide_eq_true h1
    clear hno h1
    go_enter Tryd.func21, Tryd.ntmps21
    go_wp2_with fail
    refine bodyPost_ret (v := .tuple #[entV zero6 none 0 0, .int .i64 16]) ?_ rfl ?_
    · simp [results, Tryd.results21, go_sem, o0, o1, o2, o3, o4, o5, o6, entV, zero6]
    · exact ⟨rfl, below_set7 hba (Nat.le_refl _) _ _ _ _ _ _ _⟩
  · have g1 : decide (no < 0) = false := decide_eq_false h1
    have g2 : decide ((E.length : Int) ≤ no) = true := decide_eq_true (by omega)
    clear hno h1
    go_enter Tryd.func21, Tryd.ntmps21
    go_wp2_with fail
    refine bodyPost_ret (v := .tuple #[entV zero6 none 0 0, .int .i64 16]) ?_ rfl ?_
    · simp [results, Tryd.results21, go_sem, o0, o1, o2, o3, o4, o5, o6, entV, zero6]
    · exact ⟨rfl, below_set7 hba (Nat.le_refl _) _ _ _ _ _ _ _⟩
set_option maxHeartbeats 4000000 in
theorem lent_nil (no : Int) (w : World) : Calls Tryd.prog 21 #[.pointer none, .int .i64 no] w (NoEnt w 2) := by
  obtain ⟨wa, hwa⟩ : ∃ wa, w.alloc (.cells (entCs zero6 none 0 0) 27) = wa := ⟨_, rfl⟩
  have hba : Below w.heap.size w wa := by rw [← hwa]; exact (Below.refl _ _).alloc (Nat.le_refl _) _
  have HO : Hid (OBox wa w.heap.size) := by rw [← hwa]; exact OBox.new _ _
  obtain ⟨⟨o0, o1, o2, o3, o4, o5, o6⟩, f0, f1, f2, f3, f4, f5, f6⟩ := id HO.out
  unfold entCs zero6 at hwa
  go_enter Tryd.func21, Tryd.ntmps21
  go_wp2_with fail
  refine bodyPost_ret (v := .tuple #[entV zero6 none 0 0, .int .i64 2]) ?_ rfl ?_
  · simp [results, Tryd.results21, go_sem, o0, o1, o2, o3, o4, o5, o6, entV, zero6]
  · exact ⟨rfl, below_set7 hba (Nat.le_refl _) _ _ _ _ _ _ _⟩

end Go.Proofs.YtpinhomalmknjaaDoor
