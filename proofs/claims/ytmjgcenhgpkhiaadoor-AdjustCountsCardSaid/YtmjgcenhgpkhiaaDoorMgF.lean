/- Package ledger: slices.Clone of entries, Copy, Entry. -/
import Derived.Test.YtmjgcenhgpkhiaaDoorMgE
import Derived.Test.YtmjgcenhgpkhiaaDoorMgC
import Derived.RangeFuncNested
import Derived.RangeFuncBound
import Derived.RangeFuncCalls
import Derived.RangeFuncLeaves
import Derived.RangeFuncBox
namespace Go.Proofs.YtmjgcenhgpkhiaaDoor
open Go.RowKit Go.Sort Go.Shelf
set_option linter.unusedVariables false
set_option linter.unusedSimpArgs false

def CloneEEnd (E : List En) (w : World) (e : Ending) (w' : World) : Prop :=
  ∃ v, e = .returned v ∧ w'.ownsRow w.heap.size 26 7 v E.length (cellsL En.cs E) ∧ Below w.heap.size w w'
theorem cloneE_ok (a : Option Addr) (cap : Nat) (E : List En) (w : World) (h : SlAt w 7 En.cs a cap E) (hl : E.length ≤ 1000000) :
    Calls Tryd.prog 58 #[.slice a E.length cap] w (CloneEEnd E w) := by
  obtain ⟨i0, hi, hz0, hz1, hz2⟩ := info_parts infoEnt
  have heq := fun (w : World) (a : Option Addr) (n c : Nat) => Lib.run_eql_slice_nil (P := Tryd.prog) w 31 26 a n c 0 0 Tryd.underlying31
  cases a with
  | none =>
    obtain ⟨_, rfl, rfl⟩ : none = none ∧ E = [] ∧ cap = 0 := by
      rcases h.sh with h | ⟨b, o, e, _⟩
      · exact h
      · cases e
    clear h
    go_enter Tryd.func58, Tryd.ntmps58
    go_wp2
    go_ret
    exact ⟨_, rfl, World.ownsRow_nil _ _ _ _, Below.refl _ _⟩
  | some x =>
    have HC : Hid (∀ (o : Obj) (j : Nat) (u : Value), (cellsL En.cs E)[j]? = some u → (w.alloc o).cell? (x.add j) = some u) := fun o j u hu => (h.after ((Below.refl w.heap.size w).alloc (Nat.le_refl _) o)).recs.src En.cs_len rfl j u hu
    have hlen := cellsL_len (enc := En.cs) (size := 7) En.cs_len E
    have HLn := Lib.hid hlen
    clear h hlen
    go_enter Tryd.func58, Tryd.ntmps58
    go_wp2_with (at_builtin; refine wpList_append_own _ rfl _ _ 31 rfl w.heap.size 26 i0 _ 7 72 Tryd.underlying31 hi hz0 hz1 hz2 rfl (by decide) _ 0 [] rfl (World.ownsRow_lit _ #[] 0 (Nat.le_refl _) (by unfold maxLen; omega) rfl) x E.length cap (cellsL En.cs E) rfl HLn.out (HC.out _) (cellsL_one En.cs_one E) (by unfold maxLen; omega) (by omega) (by simp) ?_; intro v' w1 hown' hgrow _)
    rw [Nat.zero_add, List.nil_append] at hown'
    have hb : Below w.heap.size w w1 := ((Below.refl _ _).alloc (Nat.le_refl _) _).grown hgrow (by simp) (fun q e => by cases e; exact Nat.le_refl _)
    go_wp2_with fail
    go_ret
    exact ⟨_, rfl, hown', hb⟩

def CopyEnd (w : World) (E : List En) (e : Ending) (w' : World) : Prop :=
  ∃ p bm a cap, e = .returned (.pointer (some ⟨p, 0, none⟩)) ∧ LgAt w' p bm a cap E ∧ w'.ownsRow w.heap.size 26 7 (.slice a E.length cap) E.length (cellsL En.cs E) ∧ Below w.heap.size w w' ∧ w.heap.size ≤ p ∧ w.heap.size ≤ bm
theorem CopyEnd.lg {w w' : World} {E : List En} {e : Ending} (h : CopyEnd w E e w') : LgEnd w E e w' := by
  obtain ⟨p, bm, a, cap, h1, h2, _, h3, h4, h5⟩ := h
  exact ⟨p, bm, a, cap, h1, h2, h3, h4, h5⟩
def CloneMEnd (W : World) (M : List (Value × Value)) (e : Ending) (w' : World) : Prop :=
  ∃ b, e = .returned (.map (some b)) ∧ MapAt OkN w' b M ∧ Below W.heap.size W w' ∧ W.heap.size ≤ b
theorem cloneB_ok (B : Nat) (M : List (Value × Value)) (w : World) (h : MapAt OkN w B M) :
    Calls Tryd.prog 59 #[.map (some B)] w (CloneMEnd w M) := by
  obtain ⟨es, clock, hb, he⟩ := h
  have hcon : Calls Tryd.prog 59 _ _ _ := Go.Proofs.AnyW.maps_Clone Tryd.cloneB B es clock w hb
  refine hcon.mono ?_
  rintro e w' ⟨rfl, rfl⟩
  exact ⟨w.heap.size, rfl, ⟨es, clock, (MapKept.heap_alloc w _).1, he⟩, (Below.refl _ _).alloc (Nat.le_refl _) _, Nat.le_refl _⟩
set_option maxHeartbeats 4000000 in
theorem lcopy_ok (p bm : Nat) (a : Option Addr) (cap : Nat) (E : List En) (w : World) (h : LgAt w p bm a cap E) (hl : E.length ≤ 1000000) :
    Calls Tryd.prog 43 #[.pointer (some ⟨p, 0, none⟩)] w (CopyEnd w E) := by
  have HF := Lib.hid h
  have HCE : Hid (∀ W, Below w.heap.size w W → Calls Tryd.prog 58 #[.slice a E.length cap] W (CloneEEnd E W)) := fun W hW => cloneE_ok a cap E W (HF.out.after hW).sl hl
  have HCM : Hid (∀ W, Below w.heap.size w W → Calls Tryd.prog 59 #[.map (some bm)] W (CloneMEnd W (byM (E.map En.p)))) := fun W hW => cloneB_ok bm _ W (HF.out.after hW).map
  have HS : Hid (∀ w' : World, Below w.heap.size w w' → w'.cell? ⟨p, 0, none⟩ = some (.slice a E.length cap) ∧ w'.cell? ⟨p, 1, none⟩ = some (.map (some bm))) := fun w' hW => ⟨(HF.out.after hW).blk.cell 0 rfl, (HF.out.after hW).blk.cell 1 rfl⟩
  clear h
  go_enter Tryd.func43, Tryd.ntmps43
  go_wp2_with fail
  go_region_held3 (fun w' => w'.cell? ⟨p, 0, none⟩ = some (.slice a E.length cap) ∧ w'.cell? ⟨p, 1, none⟩ = some (.map (some bm)))
    (first | with_reducible exact HS.out _ (Below.refl _ _).drew | with_reducible exact HS.out _ hB5 | with_reducible exact HS.out _ hB6 | go_keep)
    (first
      | (go_at_call 58; (with_reducible refine (HCE.out w.drew (Below.refl _ _).drew).mono ?_); rintro e w5 ⟨v5, rfl, ho5, hb5⟩; have hB5 : Below w.heap.size w w5 := (Below.refl _ w).drew.trans hb5; have ho5' : w5.ownsRow w.heap.size 26 7 v5 E.length (cellsL En.cs E) := ho5; obtain ⟨a5, c5, rfl, hs5, hx5⟩ := sl_own (enc := En.cs) En.cs_len ho5')
      | (go_at_call 59; (with_reducible refine (HCM.out w.drew (Below.refl _ _).drew).mono ?_); rintro e w6 ⟨b6, rfl, hm6, hb6, hz6⟩; have hB6 : Below w.heap.size w w6 := (Below.refl _ w).drew.trans hb6)
      | (go_at_call 58; (with_reducible refine (HCE.out _ hB6).mono ?_); rintro e w5 ⟨v5, rfl, ho5, hb5⟩; have hB5 : Below w.heap.size w w5 := hB6.trans (hb5.mono hB6.size); have ho5' := own_base ho5 hB6.size; obtain ⟨a5, c5, rfl, hs5, hx5⟩ := sl_own (enc := En.cs) En.cs_len ho5')
      | (go_at_call 59; (with_reducible refine (HCM.out _ hB5).mono ?_); rintro e w6 ⟨b6, rfl, hm6, hb6, hz6⟩; have hB6 : Below w.heap.size w w6 := hB5.trans (hb6.mono hB5.size)))
  have ha : Below w6.heap.size w6 (w6.alloc (.cells #[.slice a5 E.length c5, .map (some b6)] 87)) := (Below.refl _ _).alloc (Nat.le_refl _) _
  have z5 := hB5.size
  have z6 := hB6.size
  have hO : Hid ((w6.alloc (.cells #[.slice a5 E.length c5, .map (some b6)] 87)).ownsRow w.heap.size 26 7 (.slice a5 E.length c5) E.length (cellsL En.cs E)) := own_after (own_after ho5' hb6) ha
  have hFIN : Hid (LgAt (w6.alloc (.cells #[.slice a5 E.length c5, .map (some b6)] 87)) w6.heap.size b6 a5 c5 E) :=
    ⟨Blk.new _ _ _, (hs5.after hb6).after ha, fun e he => (HF.out.ok e he).after (hB6.trans (ha.mono z6)), hm6.after ha⟩
  have HBF := Lib.hid (hB6.trans (ha.mono z6))
  have hz : w.heap.size ≤ b6 := by have := hb6.size; omega
  clear hm6 hb5 hb6 hB5 hB6 ha hs5 hx5 ho5 ho5'
  go_wp2_with fail
  go_ret
  exact ⟨w6.heap.size, b6, a5, c5, rfl, hFIN.out, hO.out, HBF.out, by omega, by omega⟩
theorem lcopy_nil (w : World) : Calls Tryd.prog 43 #[.pointer none] w fun e w' => e = .returned (.pointer none) ∧ w' = w := by
  go_enter Tryd.func43, Tryd.ntmps43
  go_wp2_with fail
  go_ret
  exact ⟨rfl, rfl⟩

/-- The lines of an entry lie in a block of lines. -/
def TyLn (w : World) (a : Option Addr) : Prop := ∀ y, a = some y → ∃ cs fr, w.heap[y.block]? = some (.cells cs 69 fr)
theorem TyLn.grown {w w' : World} {row : Option Nat} {a : Option Addr} (h : TyLn w a) (hg : w.grownBy w' row) (hr : ∀ x, a = some x → row ≠ some x.block) : TyLn w' a := fun y e => by
  obtain ⟨cs, fr, hb⟩ := h y e
  exact ⟨cs, fr, (hg.block _ (Array.getElem?_eq_some_iff.1 hb).1 (fun e1 => hr y e e1.symm)).trans hb⟩
theorem TyLn.after {w w' : World} {a : Option Addr} (h : TyLn w a) (hb : Below w.heap.size w w') : TyLn w' a := h.grown (below_row hb none) (by simp)
def EntEnd (w : World) (x : EnP) (e : Ending) (w' : World) : Prop :=
  ∃ c cap, e = .returned (.tuple #[entV x.s c x.ls.length cap, .int .i64 0]) ∧ EnOk w' ⟨x.s, c, cap, x.ls⟩ ∧ Below w.heap.size w w' ∧ (∀ y, c = some y → w.heap.size ≤ y.block) ∧ TyLn w' c
set_option maxHeartbeats 4000000 in
theorem lent_in (p bm : Nat) (a : Option Addr) (cap : Nat) (E : List En) (w : World) (h : LgAt w p bm a cap E) (hl : E.length ≤ 1000000) (j : Nat) (x : En) (hx : E[j]? = some x) :
    Calls Tryd.prog 36 #[.pointer (some ⟨p, 0, none⟩), .int .i64 (j : Int)] w (EntEnd w x.p) := by
  obtain ⟨hlt, hxe⟩ := List.getElem?_eq_some_iff.1 hx
  have hX := h.ok x (by rw [← hxe]; exact List.getElem_mem _)
  obtain ⟨⟨con, day, cur, seq, per, ref⟩, la, lc, ls⟩ := x
  have hR := h.sl.recs
  obtain ⟨b, o, rfl, _⟩ := hR (by omega)
  obtain ⟨wa, hwa⟩ : ∃ wa, w.alloc (.cells (entCs zero6 none 0 0) 26) = wa := ⟨_, rfl⟩
  have hba : Below w.heap.size w wa := by rw [← hwa]; exact (Below.refl _ _).alloc (Nat.le_refl _) _
  have hza : wa.heap.size = w.heap.size + 1 := by rw [← hwa]; simp
  have HO : OBox wa w.heap.size := by rw [← hwa]; exact OBox.new _ _
  obtain ⟨wb, hwb⟩ : ∃ wb, wa.alloc (.cells (entCs ⟨con, day, cur, seq, per, ref⟩ la ls.length lc) 26) = wb := ⟨_, rfl⟩
  have hbb : Below wa.heap.size wa wb := by rw [← hwb]; exact (Below.refl _ _).alloc (Nat.le_refl _) _
  have hzb : wb.heap.size = wa.heap.size + 1 := by rw [← hwb]; simp
  have KB : Blk wb wa.heap.size (entCs ⟨con, day, cur, seq, per, ref⟩ la ls.length lc) 26 := by rw [← hwb]; exact Blk.new _ _ _
  have hbw : Below w.heap.size w wb := hba.trans (hbb.mono (by omega))
  have hLa := h.after hba
  have hRa := hLa.sl.recs
  have c0 : wa.cell? ⟨p, 0, none⟩ = some (.slice (some ⟨b, o, none⟩) E.length cap) := hLa.blk.cell 0 rfl
  have q0 : wa.cell? ⟨b, o + j * 7, none⟩ = some (.int .i64 con) := RecsAt.cell hRa rfl hlt hx (j := 0) rfl
  have q1 : wa.cell? ⟨b, o + j * 7 + 1, none⟩ = some (.int .i64 day) := RecsAt.cell hRa rfl hlt hx (j := 1) rfl
  have q2 : wa.cell? ⟨b, o + j * 7 + 2, none⟩ = some (.int .i64 cur) := RecsAt.cell hRa rfl hlt hx (j := 2) rfl
  have q3 : wa.cell? ⟨b, o + j * 7 + 3, none⟩ = some (.int .i64 seq) := RecsAt.cell hRa rfl hlt hx (j := 3) rfl
  have q4 : wa.cell? ⟨b, o + j * 7 + 4, none⟩ = some (.int .i64 per) := RecsAt.cell hRa rfl hlt hx (j := 4) rfl
  have q5 : wa.cell? ⟨b, o + j * 7 + 5, none⟩ = some (.int .i64 ref) := RecsAt.cell hRa rfl hlt hx (j := 5) rfl
  have q6 : wa.cell? ⟨b, o + j * 7 + 6, none⟩ = some (.slice la ls.length lc) := RecsAt.cell hRa rfl hlt hx (j := 6) rfl
  have k6 : wb.cell? ⟨wa.heap.size, 6, none⟩ = some (.slice la ls.length lc) := KB.cell 6 rfl
  have HC := Lib.hid (clone_ok la lc ls wb (hX.ln.after hbw) (Nat.le_trans hX.few (by omega)) (fun e => ⟨(hX.nil e).1, (hX.nil e).2⟩))
  have HOb := Lib.hid (HO.after hbb)
  have HKB := Lib.hid KB
  have HXk := Lib.hid hX
  have HZA := Lib.hid hza
  have HZB := Lib.hid hzb
  have HBW := Lib.hid hbw
  have HWB := Lib.hid hwb
  have i1 : (0 : Int) ≤ (j : Int) := by omega
  have i2 : (j : Int) < (E.length : Int) := by omega
  have g1 : decide ((j : Int) < 0) = false := decide_eq_false (by omega)
  have g2 : decide ((E.length : Int) ≤ (j : Int)) = false := decide_eq_false (by omega)
  have g3 : decide (E.length ≤ j) = false := decide_eq_false (by omega)
  unfold entCs zero6 at hwa
  clear h hx hxe hX hR hLa hRa KB HO hza hzb hbw hba hbb hwb
  go_enter Tryd.func36, Tryd.ntmps36
  go_wp2_with fail
  have hwb := HWB.out
  unfold entCs at hwb
  rw [hwb]
  clear hwa hwb
  go_wp2_with fail
  with_reducible refine HC.out.mono ?_
  rintro e w2 ⟨v2, rfl, hown, hb2⟩
  obtain ⟨c, cc, rfl, g0, hln, hcb⟩ := owned_lines hown rfl
  obtain ⟨⟨o0, o1, o2, o3, o4, o5, o6⟩, f0, f1, f2, f3, f4, f5, f6⟩ := HOb.out.after hb2
  have hk := HKB.out.after hb2
  have k0 : w2.cell? ⟨wa.heap.size, 0, none⟩ = some (.int .i64 con) := hk.cell 0 rfl
  have k1 : w2.cell? ⟨wa.heap.size, 1, none⟩ = some (.int .i64 day) := hk.cell 1 rfl
  have k2 : w2.cell? ⟨wa.heap.size, 2, none⟩ = some (.int .i64 cur) := hk.cell 2 rfl
  have k3 : w2.cell? ⟨wa.heap.size, 3, none⟩ = some (.int .i64 seq) := hk.cell 3 rfl
  have k4 : w2.cell? ⟨wa.heap.size, 4, none⟩ = some (.int .i64 per) := hk.cell 4 rfl
  have k5 : w2.cell? ⟨wa.heap.size, 5, none⟩ = some (.int .i64 ref) := hk.cell 5 rfl
  have k6 : w2.cell? ⟨wa.heap.size, 6, none⟩ = some (.slice la ls.length lc) := hk.cell 6 rfl
  have kf := hk.free 6
  have n0 : w.heap.size ≠ wa.heap.size := by have := HZA.out; omega
  have HB2 := Lib.hid hb2
  have HLN := Lib.hid hln
  have HCB := Lib.hid hcb
  have HG0 := Lib.hid g0
  have HTy : Hid (TyLn w2 c) := fun y e => by
    subst e
    obtain ⟨_, _, cur, hc⟩ := own_cells hown (g := y.block) (by rcases hown.2 with ⟨e1, _⟩ | ⟨g, cap, cur, e1, _⟩ <;> cases e1; rfl)
    exact ⟨cur, _, hc⟩
  clear hown hk hb2 hln hcb g0 q0 q1 q2 q3 q4 q5 q6 c0
  go_wp2_with fail
  refine bodyPost_ret (v := .tuple #[entV ⟨con, day, cur, seq, per, ref⟩ c ls.length cc, .int .i64 0]) ?_ rfl ?_
  · simp [results, Tryd.results36, go_sem, o0, o1, o2, o3, o4, o5, o6, entV, n0]
  · have zA := HZA.out
    have zB := HZB.out
    have z2 := HB2.out.size
    have hl3 := HLN.out.grown (grown_setCell w2 wa.heap.size 6 (.slice c ls.length cc)) (fun y e q => by have := (HCB.out y e).1; have q' := Option.some.inj q; omega)
    have hl4 := hl3.grown (grown7 _ w.heap.size (.int .i64 con) (.int .i64 day) (.int .i64 cur) (.int .i64 seq) (.int .i64 per) (.int .i64 ref) (.slice c ls.length cc)) (fun y e q => by have := (HCB.out y e).1; have q' := Option.some.inj q; omega)
    exact ⟨c, cc, rfl, ⟨hl4, HXk.out.wf, HXk.out.few, HG0.out⟩, below_set7 ((HBW.out.trans (HB2.out.mono (by omega))).setCell (p := ⟨wa.heap.size, 6, none⟩) (by show w.heap.size ≤ wa.heap.size; omega) _) (Nat.le_refl _) _ _ _ _ _ _ _, fun y e => by have := (HCB.out y e).1; omega, (HTy.out.grown (grown_setCell w2 wa.heap.size 6 (.slice c ls.length cc)) (fun y e q => by have := (HCB.out y e).1; have q' := Option.some.inj q; omega)).grown (grown7 _ w.heap.size (.int .i64 con) (.int .i64 day) (.int .i64 cur) (.int .i64 seq) (.int .i64 per) (.int .i64 ref) (.slice c ls.length cc)) (fun y e q => by have := (HCB.out y e).1; have q' := Option.some.inj q; omega)⟩
def NoEnt (w : World) (er : Int) (e : Ending) (w' : World) : Prop := e = .returned (.tuple #[entV zero6 none 0 0, .int .i64 er]) ∧ Below w.heap.size w w'
set_option maxHeartbeats 4000000 in
theorem lent_out (p bm : Nat) (a : Option Addr) (cap : Nat) (E : List En) (w : World) (h : LgAt w p bm a cap E) (no : Int) (hno : no < 0 ∨ (E.length : Int) ≤ no) :
    Calls Tryd.prog 36 #[.pointer (some ⟨p, 0, none⟩), .int .i64 no] w (NoEnt w 16) := by
  obtain ⟨wa, hwa⟩ : ∃ wa, w.alloc (.cells (entCs zero6 none 0 0) 26) = wa := ⟨_, rfl⟩
  have hba : Below w.heap.size w wa := by rw [← hwa]; exact (Below.refl _ _).alloc (Nat.le_refl _) _
  have HO : Hid (OBox wa w.heap.size) := by rw [← hwa]; exact OBox.new _ _
  have c0 : wa.cell? ⟨p, 0, none⟩ = some (.slice a E.length cap) := (h.after hba).blk.cell 0 rfl
  obtain ⟨⟨o0, o1, o2, o3, o4, o5, o6⟩, f0, f1, f2, f3, f4, f5, f6⟩ := id HO.out
  unfold entCs zero6 at hwa
  clear h
  by_cases h1 : no < 0
  · have g1 : decide (no < 0) = true := decide_eq_true h1
    clear hno h1
    go_enter Tryd.func36, Tryd.ntmps36
    go_wp2_with fail
    refine bodyPost_ret (v := .tuple #[entV zero6 none 0 0, .int .i64 16]) ?_ rfl ?_
    · simp [results, Tryd.results36, go_sem, o0, o1, o2, o3, o4, o5, o6, entV, zero6]
    · exact ⟨rfl, below_set7 hba (Nat.le_refl _) _ _ _ _ _ _ _⟩
  · have g1 : decide (no < 0) = false := decide_eq_false h1
    have g2 : decide ((E.length : Int) ≤ no) = true := decide_eq_true (by omega)
    clear hno h1
    go_enter Tryd.func36, Tryd.ntmps36
    go_wp2_with fail
    refine bodyPost_ret (v := .tuple #[entV zero6 none 0 0, .int .i64 16]) ?_ rfl ?_
    · simp [results, Tryd.results36, go_sem, o0, o1, o2, o3, o4, o5, o6, entV, zero6]
    · exact ⟨rfl, below_set7 hba (Nat.le_refl _) _ _ _ _ _ _ _⟩
set_option maxHeartbeats 4000000 in
theorem lent_nil (no : Int) (w : World) : Calls Tryd.prog 36 #[.pointer none, .int .i64 no] w (NoEnt w 2) := by
  obtain ⟨wa, hwa⟩ : ∃ wa, w.alloc (.cells (entCs zero6 none 0 0) 26) = wa := ⟨_, rfl⟩
  have hba : Below w.heap.size w wa := by rw [← hwa]; exact (Below.refl _ _).alloc (Nat.le_refl _) _
  have HO : Hid (OBox wa w.heap.size) := by rw [← hwa]; exact OBox.new _ _
  obtain ⟨⟨o0, o1, o2, o3, o4, o5, o6⟩, f0, f1, f2, f3, f4, f5, f6⟩ := id HO.out
  unfold entCs zero6 at hwa
  go_enter Tryd.func36, Tryd.ntmps36
  go_wp2_with fail
  refine bodyPost_ret (v := .tuple #[entV zero6 none 0 0, .int .i64 2]) ?_ rfl ?_
  · simp [results, Tryd.results36, go_sem, o0, o1, o2, o3, o4, o5, o6, entV, zero6]
  · exact ⟨rfl, below_set7 hba (Nat.le_refl _) _ _ _ _ _ _ _⟩

end Go.Proofs.YtmjgcenhgpkhiaaDoor
namespace Go.Proofs.YtmjgcenhgpkhiaaDoor
open Go.RowKit
set_option linter.unusedVariables false
variable {P : Program} {F : Fence} {n : Nat}

/-- The frame in a round: the iterator's value, and the variable's box. -/
def boxAct {α : Type} (ps : Array Tmp) (encs : α → Array Value) (ix : Nat) (a : Act) (x : α) (Bx : Nat) : Act :=
  { tmps := ((ps.zip (encs x)).foldl (fun t (p, v) => t.setIfInBounds p v) a.tmps).setIfInBounds ix (.pointer (some ⟨Bx, 0, none⟩)), defers := [] }

theorem wpIn_range_box {α : Type} {g : Operand} {ps : Array Tmp} {assign body : Code} {Q : Exit → Act → World → Prop} {a : Act} {w : World}
    (hro : F.round = none) (h1 : 1 ≤ n) {gf : Nat} {lb : Array Value} (hg : a.eval g = .func (.func gf) #[] lb) (hFg : F.fn gf) (eg : ∀ args w, (callFunc gf args).run P w = .ok (.enter gf args) w)
    {encs : α → Array Value} {Kp : World → World → Prop} {S Sp : List α → Prop} {N : Nat} {w0 : World} (hseq : SeqStopsK F (n - 1) P gf lb encs Kp S Sp N w0)
    (hKt : ∀ {A B C : World}, Kp A B → Kp B C → Kp A C) (hKb : ∀ (W : World) (l : Nat) (o o' : Obj), w.heap.size ≤ l → W.heap[l]? = some o → o.isCells = false → o.isWalk = false → Kp W (W.putObj l o')) (hb0 : Below w0.heap.size w0 w) (hps : ∀ x, (encs x).size = ps.size)
    (I : List α → World → Prop) (Ix : Code → List α → World → Prop) (hI : OwnFrom w.heap.size I) (hIx : ∀ c, OwnFrom w.heap.size (Ix c)) (h0 : I [] w)
    (T : TypeId) (cs : α → List Value) (ix : Nat) (B0 : Nat) (hsz : ∀ pre W, I pre W → B0 ≤ W.heap.size) (hKa : ∀ pre W o, I pre W → Kp W (W.alloc o))
    (hassign : ∀ (l : Nat) (pre : List α) (x : α) (W : World) (K : Act → World → Prop), I pre W → K (boxAct ps encs ix a x W.heap.size) (W.alloc (.cells (cs x).toArray T)) →
      assign.wpIn (F.inRound l) (n - 1 - 1) P (Exit.then K (fun _ _ _ => False)) { tmps := (ps.zip (encs x)).foldl (fun t (p, v) => t.setIfInBounds p v) a.tmps, defers := [] } W)
    (hbody : ∀ (l : Nat) (pre : List α) (x : α) (Bx : Nat) (W : World), w.heap.size ≤ l → (∃ r, W.heap[l]? = some (.loop r)) → I pre W → B0 ≤ Bx → Blk W Bx (cs x).toArray T → pre.length < N → body.wpIn (F.inRound l) (n - 1 - 1) P (ownPostG w.heap.size Kp I Ix (pre ++ [x]) W) (boxAct ps encs ix a x Bx) W)
    (hdone : ∀ (D : Nat) (xs : List α) (W : World), w.heap.size ≤ D → S xs → I xs W → W.heap[D]? = some (.deferred (some [])) → Q .normal { a with defers := { target := .collected D, args := #[] } :: a.defers } W)
    (hstop : ∀ (D : Nat) (c : Code) (pre : List α) (W : World), w.heap.size ≤ D → Sp pre → Ix c pre W → W.heap[D]? = some (.deferred (some [])) → c.wpIn F n P Q { a with defers := { target := .collected D, args := #[] } :: a.defers } W) :
    (Code.rangeFunc g ps assign body).wpIn F n P Q a w :=
  wpIn_rangeFunc_ownH hro h1 hg hFg eg hseq hKt hKb hb0 hps I Ix hI hIx h0
    (fun x a' W => ∃ Bx, B0 ≤ Bx ∧ Blk W Bx (cs x).toArray T ∧ a' = boxAct ps encs ix a x Bx)
    (fun x a' _ X Y row hs hg hr => by
      obtain ⟨Bx, h1, h2, h3⟩ := hs
      refine ⟨Bx, h1, h2.grown hg (fun e => ?_), h3⟩
      obtain ⟨o, ho, hc⟩ := (hr Bx e).2
      rw [show X.heap[Bx]? = _ from h2] at ho
      cases ho
      cases hc)
    (fun l pre x W K hi hK => hassign l pre x W K hi (hK _ _ ((KeepsOthers.alloc _ _).from _) (hKa pre W _ hi) (hI.alloc _ hi) ⟨W.heap.size, hsz pre W hi, Blk.new _ _ _, rfl⟩))
    (fun l pre x a' W hl hr hi hAx hlt => by
      obtain ⟨Bx, h1, h2, rfl⟩ := hAx
      exact hbody l pre x Bx W hl hr hi h1 h2 hlt)
    hdone hstop

/-- What a call in a round leaves. -/
theorem keeps_below {W W1 : World} (h : Below W.heap.size W W1) (B : Nat) : KeepsFrom B W W1 := (KeepsOthers.of_grownBy (below_row h none) (fun j o e => by cases e)).from B
theorem blk_own {β : Type} (B : Nat) (cs : β → Array Value) (T : TypeId) : Own (fun (s : β) W => Blk W B (cs s) T) := fun s X Y row hs hg hr =>
  hs.grown hg fun e => by
    obtain ⟨o, ho, hc⟩ := hr B e
    rw [show X.heap[B]? = _ from hs] at ho
    cases ho
    cases hc
end Go.Proofs.YtmjgcenhgpkhiaaDoor
namespace Go.Proofs.YtmjgcenhgpkhiaaDoor
open Go.RowKit
set_option linter.unusedVariables false
variable {P : Program} {F : Fence} {n : Nat}

/-- An iterator that gives values each of which comes with a fact of the world. 'm' is a mark that the iterator sets behind its own beginning: what a round must keep may hang on it. -/
def SeqTells {α : Type} (F : Fence) (n : Nat) (P : Program) (g : Nat) (lb : Array Value) (encs : α → Array Value) (Fact : α → World → Prop) (Kp : Nat → Nat → World → World → Prop) (S Sp : List α → Prop) (N : Nat) (w : World) : Prop :=
  ∀ (l : Nat) (J : Nat → List α → World → Prop) (Jx : List α → World → Prop) (W : World), Below w.heap.size w W → (∀ m, OwnFrom W.heap.size (J m)) → OwnFrom W.heap.size Jx →
    (∀ m pre x W1, W.heap.size ≤ m → J m pre W1 → Fact x W1 → pre.length < N → YieldAt F (n - 1) P l (encs x) W1 fun e W' => (e = .returned (.bool true) ∧ J m (pre ++ [x]) W' ∧ Kp W.heap.size m W1 W' ∧ KeepsFrom W.heap.size W1 W') ∨ (e = .returned (.bool false) ∧ Jx (pre ++ [x]) W' ∧ KeepsFrom W.heap.size W1 W')) →
    (∀ m W2, Below W.heap.size W W2 → W.heap.size ≤ m → m ≤ W2.heap.size → J m [] W2) →
    CallsIn F n P g (#[.func (.yield l) #[] #[]] ++ lb) W fun e W' => (∃ v, e = .returned v) ∧ ((∃ m xs, S xs ∧ J m xs W') ∨ (∃ pre, Sp pre ∧ Jx pre W'))
theorem SeqTells.less {α : Type} {g : Nat} {lb : Array Value} {encs : α → Array Value} {Fact : α → World → Prop} {Kp Kp' : Nat → Nat → World → World → Prop} {S Sp : List α → Prop} {N : Nat} {w : World} (h : SeqTells F n P g lb encs Fact Kp S Sp N w) (hk : ∀ lo m A B, Kp' lo m A B → Kp lo m A B) : SeqTells F n P g lb encs Fact Kp' S Sp N w :=
  fun l J Jx W hW hJ hJx hY h0 => h l J Jx W hW hJ hJx (fun m pre x W1 hm hj hf hl => (hY m pre x W1 hm hj hf hl).mono fun e W' hh => hh.imp (fun ⟨a, b, c, d⟩ => ⟨a, b, hk _ _ _ _ c, d⟩) id) h0
/-- Cells, or a map: no record of a loop's. -/
def Plain (o : Obj) : Prop := (∃ cs t fr, o = .cells cs t fr) ∨ ∃ es c, o = .map es c
/-- What lies below a mark is kept, and what cells and maps lie between two others. -/
structure Kept (n₀ lo hi : Nat) (A B : World) : Prop where
  be : Below n₀ A B
  mid : ∀ k o, lo ≤ k → k < hi → A.heap[k]? = some o → Plain o → B.heap[k]? = some o
theorem Kept.trans {n₀ lo hi : Nat} {A B C : World} (h : Kept n₀ lo hi A B) (k : Kept n₀ lo hi B C) : Kept n₀ lo hi A C := ⟨h.be.trans k.be, fun j o h1 h2 h3 h4 => k.mid j o h1 h2 (h.mid j o h1 h2 h3 h4) h4⟩
theorem Kept.of_below {n₀ lo hi : Nat} {A B : World} (h : Below A.heap.size A B) (hn : n₀ ≤ A.heap.size) : Kept n₀ lo hi A B := ⟨h.mono hn, fun k o _ _ h3 _ => (h.block k (Array.getElem?_eq_some_iff.1 h3).1).trans h3⟩
theorem Kept.put {n₀ lo hi : Nat} {W : World} {l : Nat} {o o' : Obj} (h : W.heap[l]? = some o) (hn : n₀ ≤ l) (ho : ¬ Plain o) : Kept n₀ lo hi W (W.putObj l o') :=
  ⟨(Below.refl n₀ W).grown (grownBy_putObj' W l o') (by have := (Array.getElem?_eq_some_iff.1 h).1; omega) (fun k e => by cases e; exact hn), fun k o2 _ _ h3 h4 => by
    by_cases e : k = l
    · subst e
      rw [h] at h3
      cases h3
      exact absurd h4 ho
    · exact (World.putObj_heap_other e).trans h3⟩
theorem not_plain_loop (r : Loop) : ¬ Plain (.loop r) := fun h => by rcases h with ⟨_, _, _, h⟩ | ⟨_, _, h⟩ <;> cases h

theorem obj_kept {A B : World} {row : Option Nat} {k m : Nat} {o : Obj} (h : A.heap[k]? = some o) (hk : k < m) (hg : A.grownBy B row) (hr : ∀ r, row = some r → m ≤ r) : B.heap[k]? = some o :=
  (hg.block k (Array.getElem?_eq_some_iff.1 h).1 (fun e => by have := hr k e.symm; omega)).trans h
set_option maxHeartbeats 400000 in
theorem wpIn_range_tells {α : Type} {g : Operand} {ps : Array Tmp} {assign body : Code} {Q : Exit → Act → World → Prop} {a : Act} {w : World}
    (hro : F.round = none) (h1 : 1 ≤ n) {gf : Nat} {lb : Array Value} (hg : a.eval g = .func (.func gf) #[] lb) (hFg : F.fn gf) (eg : ∀ args w, (callFunc gf args).run P w = .ok (.enter gf args) w)
    {encs : α → Array Value} {Fact : α → World → Prop} {Kp : Nat → Nat → World → World → Prop} {S Sp : List α → Prop} {N : Nat} {w0 : World} (hseq : SeqTells F (n - 1) P gf lb encs Fact Kp S Sp N w0)
    (hKt : ∀ m A B C, Kp (w.heap.size + 2) m A B → Kp (w.heap.size + 2) m B C → Kp (w.heap.size + 2) m A C) (hKb : ∀ m A B, w.heap.size ≤ A.heap.size → Below A.heap.size A B → Kp (w.heap.size + 2) m A B) (hKq : ∀ m (A : World) l r o', w.heap.size ≤ l → A.heap[l]? = some (.loop r) → Kp (w.heap.size + 2) m A (A.putObj l o'))
    (hb0 : Below w0.heap.size w0 w) (hps : ∀ x, (encs x).size = ps.size)
    (I : Nat → List α → World → Prop) (Ix : List α → World → Prop) (hI : ∀ m, OwnFrom w.heap.size (I m)) (hIx : OwnFrom w.heap.size Ix) (h0 : ∀ m W, Below w.heap.size w W → w.heap.size + 2 ≤ m → m ≤ W.heap.size → I m [] W) (hIm : ∀ m pre W, I m pre W → m ≤ W.heap.size)
    (hF : ∀ x, OwnFrom w.heap.size (fun (_ : Unit) W => Fact x W))
    (T : TypeId) (cs : α → List Value) (af : α → Nat → Act) 
    (hassign : ∀ (l : Nat) (pre : List α) (x : α) (W : World) (K : Act → World → Prop), w.heap.size ≤ W.heap.size → K (af x W.heap.size) (W.alloc (.cells (cs x).toArray T)) →
      assign.wpIn (F.inRound l) (n - 1 - 1) P (Exit.then K (fun _ _ _ => False)) { tmps := (ps.zip (encs x)).foldl (fun t (p, v) => t.setIfInBounds p v) a.tmps, defers := [] } W)
    (hbody : ∀ (l m : Nat) (pre : List α) (x : α) (Bx : Nat) (W : World), w.heap.size < l → l < Bx → w.heap.size + 2 ≤ m → (∃ r, W.heap[l]? = some (.loop r)) → I m pre W → Fact x W → Blk W Bx (cs x).toArray T → pre.length < N →
      body.wpIn (F.inRound l) (n - 1 - 1) P (ownPostG w.heap.size (Kp (w.heap.size + 2) m) (I m) (fun c pre W => c = .ret ∧ Ix pre W) (pre ++ [x]) W) (af x Bx) W)
    (hdone : ∀ (D m : Nat) (xs : List α) (W : World), w.heap.size ≤ D → D < m → S xs → I m xs W → W.heap[D]? = some (.deferred (some [])) → Q .normal { a with defers := { target := .collected D, args := #[] } :: a.defers } W)
    (hstop : ∀ (D : Nat) (pre : List α) (W : World), w.heap.size ≤ D → Sp pre → Ix pre W → W.heap[D]? = some (.deferred (some [])) → Code.ret.wpIn F n P Q { a with defers := { target := .collected D, args := #[] } :: a.defers } W) :
    (Code.rangeFunc g ps assign body).wpIn F n P Q a w := by
  refine wpIn_rangeFunc fun fn hfn => ?_
  rw [hro]
  obtain ⟨R, hR⟩ : ∃ R : LoopState → Option Code → Loop, R = fun st pe => { state := st, pending := pe, fn, tmps := a.tmps, params := ps, assign, body, defers := w.heap.size } := ⟨_, rfl⟩
  obtain ⟨w1, hw1⟩ : ∃ w1, w.alloc (.deferred (some [])) = w1 := ⟨_, rfl⟩
  have z1 : w1.heap.size = w.heap.size + 1 := by rw [← hw1]; simp
  have hD1 : w1.heap[w.heap.size]? = some (.deferred (some [])) := by rw [← hw1]; exact World.alloc_heap_new w _
  obtain ⟨w2, hw2⟩ : ∃ w2, w1.alloc (.loop (R .ready none)) = w2 := ⟨_, rfl⟩
  have z2 : w2.heap.size = w.heap.size + 2 := by rw [← hw2]; simp [z1]
  have hL2 : w2.heap[w.heap.size + 1]? = some (.loop (R .ready none)) := by rw [← hw2, ← z1]; exact World.alloc_heap_new w1 _
  have hD2 : w2.heap[w.heap.size]? = some (.deferred (some [])) := by rw [← hw2]; exact (Below.heap_alloc _ _ _ (by omega)).trans hD1
  have hbw : Below w.heap.size w w2 := by rw [← hw2, ← hw1]; exact ((Below.refl _ w).alloc (Nat.le_refl _) _).alloc (by simp) _
  have hb2 : Below w0.heap.size w0 w2 := by rw [← hw2, ← hw1]; exact hb0.trans ((((Below.refl _ w).alloc (Nat.le_refl _) _).alloc (by simp) _).mono hb0.size)
  have hent : (Instr.enterLoop fn a.tmps ps assign body none).run P w = .ok (w.heap.size + 1, [{ target := .collected w.heap.size, args := #[] }]) w2 := by rw [← hw2, ← hw1, hR]; exact run_enterLoop_outer _ _ _ _ _
  -- what the loop's two blocks hold between two rounds
  have hseq' := hseq (w.heap.size + 1)
    (fun m pre W => (I m pre W ∧ w.heap.size + 2 ≤ m) ∧ W.heap[w.heap.size + 1]? = some (.loop (R .ready none)) ∧ W.heap[w.heap.size]? = some (.deferred (some [])))
    (fun pre W => Ix pre W ∧ W.heap[w.heap.size + 1]? = some (.loop (R .done (some .ret))) ∧ W.heap[w.heap.size]? = some (.deferred (some []))) w2 hb2
    (fun m s A B row hs hg' hr => ⟨⟨hI m s A B row hs.1.1 hg' (fun r e => ⟨by have := (hr r e).1; omega, (hr r e).2⟩), hs.1.2⟩, obj_kept hs.2.1 (m := w2.heap.size) (by omega) hg' (fun r e => (hr r e).1), obj_kept hs.2.2 (m := w2.heap.size) (by omega) hg' (fun r e => (hr r e).1)⟩)
    (fun s A B row hs hg' hr => ⟨hIx s A B row hs.1 hg' (fun r e => ⟨by have := (hr r e).1; omega, (hr r e).2⟩), obj_kept hs.2.1 (m := w2.heap.size) (by omega) hg' (fun r e => (hr r e).1), obj_kept hs.2.2 (m := w2.heap.size) (by omega) hg' (fun r e => (hr r e).1)⟩)
  refine ⟨w.heap.size + 1, [{ target := .collected w.heap.size, args := #[] }], w2, { target := .fn (.func gf) lb, args := #[.func (.yield (w.heap.size + 1)) #[] #[]] }, w2, gf, #[.func (.yield (w.heap.size + 1)) #[] #[]] ++ lb, w2, hent, ?_, ?_, ?_, fun _ => h1, ?_⟩
  · simp only [resolve, hg]
    simp [go_sem]
  · intro f' hf'; simp [Target.leads] at hf'; subst hf'; exact hFg
  · simp [invoke, go_sem, eg]
  refine (hseq' ?_ (fun m W2 hb hm hm2 => ⟨⟨h0 m W2 (hbw.trans (hb.mono (by omega))) (by omega) hm2, by omega⟩, (hb.block _ (by omega)).trans hL2, (hb.block _ (by omega)).trans hD2⟩)).mono ?_
  · rintro m pre x W hm0 ⟨⟨hi, hm2⟩, hl, hd⟩ hx hlen
    have hmW := hIm m pre W hi
    rw [z2]
    have hlt : w.heap.size + 1 < W.heap.size := (Array.getElem?_eq_some_iff.1 hl).1
    have hy := run_yield (P := P) (args := encs x) hl (by rw [hR]; exact hps x)
    rw [hR] at hy
    refine ⟨fn, _, assign, body, hy, roundIn_of_wpIn hfn (hassign _ pre x W _ (by omega) ?_)⟩
    clear hy
    -- the variable's box
    obtain ⟨W1, hW1⟩ : ∃ W1, W.alloc (.cells (cs x).toArray T) = W1 := ⟨_, rfl⟩
    have zW : W1.heap.size = W.heap.size + 1 := by rw [← hW1]; simp
    have hl1 : W1.heap[w.heap.size + 1]? = some (.loop (R .ready none)) := by rw [← hW1]; exact (Below.heap_alloc _ _ _ (by omega)).trans hl
    have hd1 : W1.heap[w.heap.size]? = some (.deferred (some [])) := by rw [← hW1]; exact (Below.heap_alloc _ _ _ (by omega)).trans hd
    have hi1 : I m pre W1 := by rw [← hW1]; exact (hI m).alloc _ hi
    have hx1 : Fact x W1 := by rw [← hW1]; exact (hF x).alloc (s := ()) _ hx
    have hk1 : Blk W1 W.heap.size (cs x).toArray T := by rw [← hW1]; exact Blk.new _ _ _
    have hKp1 : Kp (w.heap.size + 2) m W W1 := by rw [← hW1]; exact hKb m _ _ (by omega) ((Below.refl _ _).alloc (Nat.le_refl _) _)
    rw [hW1]
    refine ⟨_, run_beginRound hl1 (by rw [hR]), ?_⟩
    -- the round is under way
    obtain ⟨W2, hW2⟩ : ∃ W2, W1.putObj (w.heap.size + 1) (.loop { R .ready none with state := .busy }) = W2 := ⟨_, rfl⟩
    have hl2 : W2.heap[w.heap.size + 1]? = some (.loop { R .ready none with state := .busy }) := by rw [← hW2]; exact World.putObj_heap_same (by omega)
    have hd2 : W2.heap[w.heap.size]? = some (.deferred (some [])) := by rw [← hW2]; exact (World.putObj_heap_other (by omega)).trans hd1
    have hk2 : Blk W2 W.heap.size (cs x).toArray T := by rw [← hW2]; exact (World.putObj_heap_other (by omega)).trans hk1
    have hi3 : I m pre W2 := by rw [← hW2]; exact (hI m).putObj _ hi1 (by omega) hl1 rfl
    have hx3 : Fact x W2 := by rw [← hW2]; exact (hF x).putObj (s := ()) _ hx1 (by omega) hl1 rfl
    have hKp2 : Kp (w.heap.size + 2) m W1 W2 := by rw [← hW2]; exact hKq m _ _ _ _ (by omega) hl1
    rw [hW2]
    refine wpIn_mono (hbody _ m pre x _ W2 (by omega) (by omega) hm2 ⟨_, hl2⟩ hi3 hx3 hk2 hlen) ?_
    have fin : ∀ (jump : Option Code) (W3 : World), KeepsFrom w.heap.size W2 W3 →
        (Instr.endRound (w.heap.size + 1) jump).run P W3 = .ok (.bool jump.isNone) (W3.putObj (w.heap.size + 1) (.loop (R (if jump.isNone then .ready else .done) jump))) ∧
        W3.heap[w.heap.size + 1]? = some (.loop { R .ready none with state := .busy }) ∧
        (W3.putObj (w.heap.size + 1) (.loop (R (if jump.isNone then .ready else .done) jump))).heap[w.heap.size + 1]? = some (.loop (R (if jump.isNone then .ready else .done) jump)) ∧
        (W3.putObj (w.heap.size + 1) (.loop (R (if jump.isNone then .ready else .done) jump))).heap[w.heap.size]? = some (.deferred (some [])) := fun jump W3 hk3 => by
      have hl3 := hk3.same _ _ (by omega) hl2 rfl
      have hrun := run_endRound (P := P) jump hl3
      rw [hR] at hrun ⊢
      exact ⟨hrun, by rw [hR] at hl3; exact hl3, World.putObj_heap_same (Array.getElem?_eq_some_iff.1 hl3).1, (World.putObj_heap_other (by omega)).trans (hk3.same _ _ (Nat.le_refl _) hd2 rfl)⟩
    have hkf : ∀ (jump : Option Code) (W3 : World), KeepsFrom w.heap.size W2 W3 → KeepsFrom (w.heap.size + 2) W (W3.putObj (w.heap.size + 1) (.loop (R (if jump.isNone then .ready else .done) jump))) := fun jump W3 hk3 => by
      refine ⟨?_, fun k o hB hk ho => ?_⟩
      · have h3 := hk3.size
        have h2 : W1.heap.size ≤ W2.heap.size := by rw [← hW2]; exact (grownBy_putObj' W1 _ _).size
        have h4 := (grownBy_putObj' W3 (w.heap.size + 1) (.loop (R (if jump.isNone then .ready else .done) jump))).size
        omega
      · have g1 : W1.heap[k]? = some o := by rw [← hW1]; exact (Below.heap_alloc _ _ _ (Array.getElem?_eq_some_iff.1 hk).1).trans hk
        have g2 : W2.heap[k]? = some o := by rw [← hW2]; exact (World.putObj_heap_other (by omega)).trans g1
        exact (World.putObj_heap_other (by omega)).trans (hk3.same _ _ (by omega) g2 ho)
    rintro e a3 W3 hp
    cases e with
    | normal =>
      obtain ⟨hk3, hkp3, hi4⟩ := hp
      obtain ⟨hr, hl3, hl4, hd4⟩ := fin none W3 hk3
      exact ⟨_, _, hr, .inl ⟨rfl, ⟨⟨(hI m).putObj _ hi4 (by omega) hl3 rfl, hm2⟩, hl4, hd4⟩, hKt m _ _ _ hKp1 (hKt m _ _ _ (hKt m _ _ _ hKp2 hkp3) (hKq m _ _ _ _ (by omega) hl3)), hkf none W3 hk3⟩⟩
    | ret =>
      obtain ⟨hk3, _, hi4⟩ := hp
      obtain ⟨hr, hl3, hl4, hd4⟩ := fin (some .ret) W3 hk3
      exact ⟨_, _, hr, .inr ⟨rfl, ⟨hIx.putObj _ hi4 (by omega) hl3 rfl, hl4, hd4⟩, hkf (some .ret) W3 hk3⟩⟩
    | exit id =>
      obtain ⟨_, he, _⟩ := hp
      cases he
    | goto t =>
      obtain ⟨_, he, _⟩ := hp
      cases he
    | panic ch => exact hp.elim
    | outgrown => exact hp.elim
  · rintro e W2 ⟨⟨v, rfl⟩, (⟨m, xs, hS, ⟨hi, hm2⟩, hl, hd⟩ | ⟨pre, hSp, hi, hl, hd⟩)⟩
    · have hrun := run_endLoop (P := P) hl (by rw [hR]; simp)
      rw [hR] at hrun
      exact ⟨none, _, hrun, hdone _ m xs _ (Nat.le_refl _) (by omega) hS ((hI m).putObj _ hi (by omega) hl rfl) ((World.putObj_heap_other (by omega)).trans hd)⟩
    · have hrun := run_endLoop (P := P) hl (by rw [hR]; simp)
      rw [hR] at hrun
      exact ⟨some .ret, _, hrun, hstop _ pre _ (Nat.le_refl _) hSp (hIx.putObj _ hi (by omega) hl rfl) ((World.putObj_heap_other (by omega)).trans hd)⟩
theorem roundIn_any {m m' l l' : Nat} {f : FuncId} {tmps : Array Value} {assign body : Code} {w : World} {R : Ending → World → Prop} (h : RoundIn Fence.wide m P l f tmps assign body w R) : RoundIn (Fence.wide.inRound l') m' P l f tmps assign body w R :=
  ⟨h.1, fun c cs _ => h.2 c cs (room_wide _)⟩
end Go.Proofs.YtmjgcenhgpkhiaaDoor
