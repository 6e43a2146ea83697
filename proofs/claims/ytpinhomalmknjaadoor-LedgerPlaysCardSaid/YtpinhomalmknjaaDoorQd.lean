/- Entries as the document's answer has them: plain. -/
import Derived.Test.YtpinhomalmknjaaDoorQc
import Derived.Deep.DeepCutAuto
import Derived.Deep.CutRange
namespace Go.Proofs.YtpinhomalmknjaaDoor
open Go.RowKit Go.Sort Go.Shelf
set_option linter.unusedVariables false
set_option linter.unusedSimpArgs false
set_option maxRecDepth 100000

def PlainsEnd (w : World) (X : List En) (e : Ending) (w' : World) : Prop := ∃ c cap X', e = .returned (.slice c X.length cap) ∧ X'.length = X.length ∧ X'.map En.p = X.map En.p ∧ EnsAt w' c X' ∧ Below w.heap.size w w'
structure PlRel (w : World) (X : List En) (k : Nat) (wr : World) (v : Value) : Prop where
  ex : ∃ a' cap' X', v = .slice a' k cap' ∧ X'.length = k ∧ wr.ownsRow w.heap.size 90 7 v k (cellsL En.cs X') ∧ X'.map En.p = (X.take k).map En.p ∧ (∀ e ∈ X', EnOk wr e) ∧ ∀ e ∈ X', LnFar v e
  be : Below w.heap.size w wr
theorem PlRel.put {w wr w6 wA wG : World} {X X' : List En} {k g c3 : Nat} {v : Value} {x y : En} (hx : X[k]? = some x) (hlen : X'.length = k) (hown : wr.ownsRow w.heap.size 90 7 v k (cellsL En.cs X')) (hp : X'.map En.p = (X.take k).map En.p) (hok : ∀ e ∈ X', EnOk wr e) (hf : ∀ e ∈ X', LnFar v e)
    (hb : Below w.heap.size w wr) (h6 : Below wr.heap.size wr w6) (hy : EnOk w6 y) (hyx : y.p = x.p) (hyn : ∀ a, y.a = some a → wr.heap.size ≤ a.block) (hA : Below w6.heap.size w6 wA)
    (hG : wG.ownsRow w.heap.size 90 7 (.slice (some ⟨g, 0, none⟩) (k + 1) c3) (k + 1) (cellsL En.cs X' ++ y.cs)) (hgrow : wA.grownBy wG v.ownBlock) (hat : v.ownBlock = some g ∨ g = wA.heap.size) :
    PlRel w X (k + 1) wG (.slice (some ⟨g, 0, none⟩) (k + 1) c3) := by
  obtain ⟨hj, hxe⟩ := List.getElem?_eq_some_iff.1 hx
  have h6A := h6.trans (hA.mono h6.size)
  have hokA : ∀ e ∈ X' ++ [y], EnOk wA e := fun e he => by
    rcases List.mem_append.1 he with h1 | h1
    · exact (hok e h1).after h6A
    · rw [List.mem_singleton.1 h1]; exact hy.after hA
  have hfA : ∀ e ∈ X' ++ [y], LnFar v e := fun e he => by
    rcases List.mem_append.1 he with h1 | h1
    · exact hf e h1
    · rw [List.mem_singleton.1 h1]
      intro a ha hl hv
      have h1 := (own_cells hown hv).2.1
      have h2 := hyn a ha
      omega
  refine ⟨⟨_, _, X' ++ [y], rfl, by simp [hlen], by rw [cellsL_snoc]; exact hG, ?_, fun e he => ⟨fun hl => ?_, (hokA e he).wf, (hokA e he).few, (hokA e he).nil⟩, fun e he a ha hl hg => ?_⟩, ?_⟩
  · rw [List.map_append, hp, List.take_succ_eq_append_getElem hj, List.map_append, hxe]
    simp [hyx]
  · obtain ⟨b, o, e1, hc⟩ := (hokA e he).ln hl
    have hne := hfA e he _ e1 hl
    exact ⟨b, o, e1, fun i hi => ⟨grown_cell hgrow (hc i hi).1 hne, grown_cell hgrow (hc i hi).2.1 hne, grown_cell hgrow (hc i hi).2.2 hne⟩⟩
  · simp only [Value.ownBlock, Option.some.injEq] at hg
    rcases hat with h1 | h1
    · exact hfA e he a ha hl (by rw [h1, hg])
    · have := (hokA e he).ln.lt hl a ha
      omega
  · exact (hb.trans (h6A.mono hb.size)).grown hgrow (by have := hb.size; have := h6A.size; omega) (fun q e => (own_cells hown e).1)

set_option maxHeartbeats 4000000 in
theorem plains_ok (ea : Option Addr) (ecap : Nat) (X : List En) (w : World) (hx : EnsAt w ea X) (hl : X.length ≤ 1000) :
    Calls Tryd.prog 40 #[.slice ea X.length ecap] w (PlainsEnd w X) := by
  obtain ⟨v0, hv, hv0, hv1, hv2⟩ := info_parts infoREnt
  have HX := Lib.hid hx
  clear hx
  go_enter Tryd.func40, Tryd.ntmps40
  go_wp2_with fail
  go_loopw [3, 4] (fun v i wr => ∃ k : Nat, k ≤ X.length ∧ i = .int .i64 (k : Int) ∧ Hid (PlRel w X k wr v)) (fun _ i _ => X.length - (intOf i).toNat)
  case atStart => exact ⟨0, by omega, rfl, ⟨none, 0, [], rfl, rfl, World.ownsRow_nil _ _ _ _, rfl, fun e he => by simp at he, fun e he => by simp at he⟩, Below.refl _ _⟩
  case round =>
    obtain ⟨k, hk, rfl, HQ⟩ := hrel
    obtain ⟨a1, c1, X', rfl, hlen, hown, hp, hok, hf⟩ := HQ.out.ex
    have HO := Lib.hid hown
    have HP := Lib.hid hp
    have HK := Lib.hid hok
    have HF := Lib.hid hf
    have HB := Lib.hid HQ.out.be
    clear hown hp hok hf HQ
    by_cases hlt : k < X.length
    · obtain ⟨x, hy⟩ : ∃ x, X[k]'hlt = x := ⟨_, rfl⟩
      have hx : X[k]? = some x := by rw [← hy]; exact List.getElem?_eq_getElem hlt
      have hxw : EnOk wr x := by
        have := (HX.out.after HB.out).2 k hlt
        rwa [show En.at X k = x by unfold En.at; rw [List.getD_eq_getElem?_getD, hx]; rfl] at this
      have HXk := Lib.hid hx
      obtain ⟨b0, o0, rfl, _⟩ := HX.out.1 (by omega)
      obtain ⟨⟨con, day, cur, sq, pr, ref⟩, la, lc, ls⟩ := x
      have hXr : RecsAt wr (some ⟨b0, o0, none⟩) 7 En.cs X := (HX.out.after HB.out).1
      have q0 : wr.cell? ⟨b0, o0 + k * 7, none⟩ = some (.int .i64 con) := RecsAt.cell hXr rfl hlt hx (j := 0) rfl
      have q1 : wr.cell? ⟨b0, o0 + k * 7 + 1, none⟩ = some (.int .i64 day) := RecsAt.cell hXr rfl hlt hx (j := 1) rfl
      have q2 : wr.cell? ⟨b0, o0 + k * 7 + 2, none⟩ = some (.int .i64 cur) := RecsAt.cell hXr rfl hlt hx (j := 2) rfl
      have q3 : wr.cell? ⟨b0, o0 + k * 7 + 3, none⟩ = some (.int .i64 sq) := RecsAt.cell hXr rfl hlt hx (j := 3) rfl
      have q4 : wr.cell? ⟨b0, o0 + k * 7 + 4, none⟩ = some (.int .i64 pr) := RecsAt.cell hXr rfl hlt hx (j := 4) rfl
      have q5 : wr.cell? ⟨b0, o0 + k * 7 + 5, none⟩ = some (.int .i64 ref) := RecsAt.cell hXr rfl hlt hx (j := 5) rfl
      have q6 : wr.cell? ⟨b0, o0 + k * 7 + 6, none⟩ = some (.slice la ls.length lc) := RecsAt.cell hXr rfl hlt hx (j := 6) rfl
      have hpl := plain_ok ⟨con, day, cur, sq, pr, ref⟩ la lc ls wr hxw.ln hxw.few
      dsimp only [entV] at hpl
      have HPl := Lib.hid hpl
      have HXw := Lib.hid hxw
      have i1 : (0 : Int) ≤ (k : Int) := by omega
      have i2 : (k : Int) < (X.length : Int) := by omega
      have zB := HB.out.size
      clear hy hx hxw hXr hpl
      go_wp2_with fail
      with_reducible refine HPl.out.mono ?_
      rintro e w6 ⟨c, cap, rfl, hnil, hln, hb6, hnew, _⟩
      dsimp only [entV]
      have HY : Hid (EnOk w6 ⟨⟨con, day, cur, sq, pr, ref⟩, c, cap, ls⟩) := ⟨hln, HXw.out.wf, HXw.out.few, hnil⟩
      have HB6 := Lib.hid hb6
      have HN := Lib.hid hnew
      have z6 := hb6.size
      clear hln hnil hb6 hnew HPl HXw q0 q1 q2 q3 q4 q5 q6
      have bA : ∀ o, Below w6.heap.size w6 (w6.alloc o) := fun o => (Below.refl _ _).alloc (Nat.le_refl _) _
      have HA := Lib.hid bA
      clear bA
      go_wp2_with (at_builtin; refine wpList_append_lies _ rfl (.tmp 11) (.tmp 17) 38 rfl w.heap.size 90 v0 _ 7 72 Tryd.underlying38 hv hv0 hv1 hv2 rfl (by decide) _ k _ rfl (own_after (own_after HO.out HB6.out) (HA.out _)) ⟨w6.heap.size, 0, none⟩ 1 1 [.int .i64 con, .int .i64 day, .int .i64 cur, .int .i64 sq, .int .i64 pr, .int .i64 ref, .slice c ls.length cap] rfl rfl (World.news_of_block (cs := #[.int .i64 con, .int .i64 day, .int .i64 cur, .int .i64 sq, .int .i64 pr, .int .i64 ref, .slice c ls.length cap]) (t := 90) (fr := (0, 0)) (heap_alloc_new w6 _)) (by simp [Value.oneCell']) (by omega) (by unfold maxLen; omega) (by omega) (by simp; omega) _ rfl ?_; intro g c3 wG hown hgrow hat hgt; have HR : Hid (PlRel w X (k + 1) wG (.slice (some ⟨g, 0, none⟩) (k + 1) c3)) := PlRel.put (y := ⟨⟨con, day, cur, sq, pr, ref⟩, c, cap, ls⟩) HXk.out hlen HO.out HP.out HK.out HF.out HB.out HB6.out HY.out rfl HN.out (HA.out _) hown hgrow hat; clear hown hgrow hat hgt)
      go_roundw
      case rel => exact ⟨k + 1, by omega, by go_num, HR⟩
      case measure => simp [intOf]; omega
    · obtain rfl : k = X.length := by omega
      go_wp2_with fail
      go_ret
      obtain ⟨a9, c9, e9, hsl, _⟩ := sl_own (enc := En.cs) En.cs_len (by rw [hlen]; exact HO.out)
      rw [hlen] at e9
      cases e9
      refine ⟨_, _, X', rfl, hlen, by rw [HP.out, List.take_length], ⟨hsl.recs, fun i hi => HK.out _ (at_memE hi)⟩, HB.out⟩

end Go.Proofs.YtpinhomalmknjaaDoor
/- A call done with both ledgers: does. -/
namespace Go.Proofs.YtpinhomalmknjaaDoor
open Go.RowKit Go.Sort Go.Shelf
set_option linter.unusedVariables false
set_option linter.unusedSimpArgs false
set_option maxRecDepth 100000

/-- The books, and the periods. -/
structure BkS (W : World) (p b s i m : Nat) (L : List EnP) (wr : World) : Prop where
  ex : ∃ bm a cap E, LgAt wr p bm a cap E ∧ E.map En.p = L
  wl : WL L
  per : ∃ l, Per wr b s 30 l ∧ 0 ≤ l ∧ l ≤ i
  pb : PBox wr b
  len : L.length ≤ m
  be : Below W.heap.size W wr
theorem BkS.after {W : World} {p b s i m : Nat} {L : List EnP} {A C : World} (h : BkS W p b s i m L A) (hb : Below A.heap.size A C) : BkS W p b s i m L C := by
  obtain ⟨⟨bm, a, cap, E, h1, h2⟩, h3, ⟨l, h4, h5, h6⟩, h7, h10, h11⟩ := h
  exact ⟨⟨bm, a, cap, E, h1.after hb, h2⟩, h3, ⟨l, h4.after hb, h5, h6⟩, h7.after hb, h10, h11.trans (hb.mono h11.size)⟩
theorem BkS.up {W : World} {p b s i m : Nat} {L : List EnP} {A : World} (h : BkS W p b s i m L A) : BkS W p b s (i + 1) m L A := by
  obtain ⟨h1, h3, ⟨l, h4, h5, h6⟩, h7, h10, h11⟩ := h
  exact ⟨h1, h3, ⟨l, h4, h5, by push_cast; omega⟩, h7, h10, h11⟩
theorem BkS.lock {W : World} {p b s i m : Nat} {L : List EnP} {A C : World} {l : Int} {e : Ending} (h : BkS W p b s i m L A) (ha : Apart3 W p b s) (h0 : 0 ≤ l) (hl : l ≤ i) (hk : LockEnd b s l A e C) : ∃ n, e = .returned (.int .i64 n) ∧ BkS W p b s (i + 1) m L C ∧ Turn [b] A C := by
  obtain ⟨⟨bm, a, cap, E, h1, h2⟩, h3, _, h7, h10, h11⟩ := h
  obtain ⟨n, l', rfl, k1, k2, k3, t⟩ := hk
  have hb : ∀ q ∈ [b], Bx A q := fun q hq => by rw [List.mem_singleton.1 hq]; exact .inr h7
  exact ⟨n, rfl, ⟨⟨bm, a, cap, E, h1.turn2 t hb (by simpa using ha.npb), h2⟩, h3, ⟨l', k1, by omega, by push_cast; omega⟩, k2, h10, h11.trans (t.below h11.size fun q hq => by rw [List.mem_singleton.1 hq]; exact ha.hb)⟩, t⟩
theorem postL_len {there lk : Bool} {per seq : Int} {L xs : List EnP} : (postL there lk per seq L xs).length ≤ L.length + xs.length := by
  unfold postL
  split
  · simp
  · omega
/-- Behind a call of the ledger's Post. -/
def PoQ (W : World) (p b s i m : Nat) (L : List EnP) (l op os : Int) (X : List En) (A : World) (e : Ending) (C : World) : Prop :=
  ∃ er : Int, er = postE (decide (0 ≤ op ∧ op ≤ lastP 30)) (decide (op < l)) op os L (X.map En.p) ∧ e = .returned (.tuple #[.int .i64 (if er = 0 then (L.length : Int) else 0), .int .i64 er]) ∧ BkS W p b s i (m + X.length) (postL (decide (0 ≤ op ∧ op ≤ lastP 30)) (decide (op < l)) op os L (X.map En.p)) C ∧ Per C b s 30 l ∧ Turn [p] A C
theorem BkS.post {W : World} {p b s i m : Nat} {L : List EnP} {A : World} {l : Int} (h : BkS W p b s i m L A) (ha : Apart3 W p b s) (hR : RulesAt W) (hm : m ≤ 900) (hP : Per A b s 30 l) (hl0 : 0 ≤ l) (hli : l ≤ i) (op os : Int) (ea : Option Addr) (ecap : Nat) (X : List En) (hx : EnsAt A ea X) (hxl : X.length ≤ 1000) (hxw : ∀ x ∈ X, (Lit.int .i64 x.s.ref).wf = true) :
    Calls Tryd.prog 20 #[.pointer (some ⟨p, 0, none⟩), .pointer (some ⟨b, 0, none⟩), .int .i64 op, .int .i64 os, .slice ea X.length ecap] A (PoQ W p b s i m L l op os X A) := by
  obtain ⟨⟨bm, a, cap, E, h1, rfl⟩, h3, _, h7, h10, h11⟩ := h
  have hEl : E.length ≤ m := by simpa using h10
  refine (lpost_ok p bm a cap E b s 30 l op os ea ecap X A (hR.after h11) h1 h3 (by omega) hP (by omega) (by omega) hx (by omega) hxw).mono ?_
  rintro e C ⟨bm', a', cap', E', rfl, k1, k2, t⟩
  have hb2 : ∀ q ∈ [p], Bx A q := fun q hq => by rw [List.mem_singleton.1 hq]; exact .inl h1.box
  have hP' := hP.turn t (by simpa using ha.npb.symm) (by simpa using ha.nps.symm)
  refine ⟨_, rfl, by rw [List.length_map], ⟨⟨bm', a', cap', E', k1, k2⟩, postL_wl h3 (fun ht => (of_decide_eq_true ht).1), ⟨l, hP', hl0, hli⟩, h7.turn t (by simpa using ha.npb.symm), ?_, h11.trans (t.below h11.size fun q hq => by rw [List.mem_singleton.1 hq]; exact ha.hp)⟩, hP', t⟩
  have := postL_len (there := decide (0 ≤ op ∧ op ≤ lastP 30)) (lk := decide (op < l)) (per := op) (seq := os) (L := E.map En.p) (xs := X.map En.p)
  simp only [List.length_map] at this
  omega
theorem BkS.turn3 {W : World} {p b s i m : Nat} {L : List EnP} {A C : World} {q : Nat} (h : BkS W p b s i m L A) (t : Turn [q] A C) (hQ : QBox A q) (hW : W.heap.size ≤ q) (h1 : q ≠ p) (h2 : q ≠ b) (h3 : q ≠ s) : BkS W p b s i m L C := by
  obtain ⟨⟨bm, a, cap, E, k1, k2⟩, k3, ⟨l, k4, k5, k6⟩, k7, k10, k11⟩ := h
  have hb : ∀ x ∈ [q], QBox A x := fun x hx => by rw [List.mem_singleton.1 hx]; exact hQ
  refine ⟨⟨bm, a, cap, E, ⟨t.blk k1.blk (by simpa using h1.symm), k1.sl.turn3 t hb, fun e he => (k1.ok e he).turn3 t hb, k1.map.block (t.block bm k1.map.lt (by simpa using hQ.no_map k1.map))⟩, k2⟩, k3, ⟨l, k4.turn t (by simpa using h2.symm) (by simpa using h3.symm), k5, k6⟩, k7.turn t (by simpa using h2.symm), k10, k11.trans (t.below k11.size fun x hx => by rw [List.mem_singleton.1 hx]; exact hW)⟩
theorem RqOk.turn2 {w w' : World} {bs : List Nat} {q : Nat} {a : Option Addr} {cap : Nat} {E : List En} (h : RqOk w q a cap E) (t : Turn bs w w') (hb : ∀ x ∈ bs, Bx w x) (hq : q ∉ bs) : RqOk w' q a cap E :=
  ⟨⟨t.blk h.at'.blk hq, h.at'.sl.turn2 t hb, fun e he => (h.at'.ok e he).turn2 t hb⟩, h.nil⟩
/-- The like, with the document's ledger and the call's box. -/
structure DoS (W : World) (p b s i m : Nat) (L : List EnP) (q : Nat) (ra : Option Addr) (rc : Nat) (R : List En) (B : Nat) (cs : Array Value) (w0 wr : World) : Prop where
  bk : BkS W p b s i m L wr
  rq : RqOk wr q ra rc R
  bx : Blk wr B cs 44
  tn : Turn [p, b, q] w0 wr
theorem DoS.after {W : World} {p b s i m : Nat} {L : List EnP} {q : Nat} {ra : Option Addr} {rc : Nat} {R : List En} {B : Nat} {cs : Array Value} {w0 A C : World} (h : DoS W p b s i m L q ra rc R B cs w0 A) (hb : Below A.heap.size A C) : DoS W p b s i m L q ra rc R B cs w0 C :=
  ⟨h.bk.after hb, h.rq.after hb, h.bx.after hb, h.tn.trans (Turn.of_below hb)⟩
theorem DoS.lock {W : World} {p b s i m : Nat} {L : List EnP} {q : Nat} {ra : Option Addr} {rc : Nat} {R : List En} {B : Nat} {cs : Array Value} {w0 A C : World} {l : Int} {e : Ending} (h : DoS W p b s i m L q ra rc R B cs w0 A) (ha : Apart3 W p b s) (h0 : 0 ≤ l) (hl : l ≤ i) (hqb : q ≠ b) (hBb : B ≠ b) (hk : LockEnd b s l A e C) : ∃ n, e = .returned (.int .i64 n) ∧ DoS W p b s (i + 1) m L q ra rc R B cs w0 C := by
  have hb : ∀ x ∈ [b], Bx A x := fun x hx => by rw [List.mem_singleton.1 hx]; exact .inr h.bk.pb
  obtain ⟨n, rfl, h1, t⟩ := h.bk.lock ha h0 hl hk
  exact ⟨n, rfl, h1, h.rq.turn2 t hb (by simpa using hqb), t.blk h.bx (by simpa using hBb), h.tn.trans (t.mono (by simp))⟩
def DoesEnd (W : World) (p b s i m : Nat) (L : List EnP) (q : Nat) (R : List En) (op os : Int) (X : List En) (w : World) (e : Ending) (w' : World) : Prop :=
  ∃ (r lk : Bool) (ra : Option Addr) (rc : Nat) (R' : List En), e = .returned (.bool r) ∧ BkS W p b s (i + 1) (m + X.length) (postL (decide (0 ≤ op ∧ op ≤ lastP 30)) lk op os L (X.map En.p)) w' ∧ RqOk w' q ra rc R' ∧ Turn [p, b, q] w w' ∧ (R.map En.p = L → r = true ∧ R'.map En.p = postL (decide (0 ≤ op ∧ op ≤ lastP 30)) lk op os L (X.map En.p))
/-- The periods that entries are in are some that there are. -/
def PerOk (L : List EnP) : Prop := ∀ e ∈ L, 0 ≤ e.s.per ∧ e.s.per ≤ lastP 30
theorem PerOk.post {L xs : List EnP} {op os : Int} {lk : Bool} (h : PerOk L) : PerOk (postL (decide (0 ≤ op ∧ op ≤ lastP 30)) lk op os L xs) := by
  unfold postL
  split
  · rename_i h0
    have ht : 0 ≤ op ∧ op ≤ lastP 30 := by
      unfold postE at h0
      split at h0
      · cases h0
      · rename_i c1
        simpa using c1
    intro e he
    rcases List.mem_append.1 he with h1 | h1
    · exact h e h1
    · obtain ⟨x, _, rfl⟩ := List.mem_map.1 h1
      exact ht
  · exact h
theorem postE_out {lk lk' : Bool} {per seq : Int} {L xs : List EnP} : postE false lk per seq L xs = postE false lk' per seq L xs := rfl
theorem postL_out {lk lk' : Bool} {per seq : Int} {L xs : List EnP} : postL false lk per seq L xs = postL false lk' per seq L xs := rfl

end Go.Proofs.YtpinhomalmknjaaDoor
/- A call done with both ledgers: does, walked. -/
namespace Go.Proofs.YtpinhomalmknjaaDoor
open Go.RowKit Go.Sort Go.Shelf
set_option linter.unusedVariables false
set_option linter.unusedSimpArgs false
set_option maxRecDepth 100000

set_option maxHeartbeats 40000000 in
theorem does_ok (W : World) (p b s i m : Nat) (L : List EnP) (q : Nat) (ra : Option Addr) (rc : Nat) (R : List En) (op os : Int) (ok : Bool) (oa : Option Addr) (oc : Nat) (X : List En) (w : World) (h : BkS W p b s i m L w) (ha : Apart3 W p b s) (hRu : RulesAt W) (hi : i ≤ 50) (hm : m ≤ 900)
    (hq : RqOk w q ra rc R) (hRl : R.length ≤ 900) (hRw : WL (R.map En.p)) (hqW : W.heap.size ≤ q) (hqp : q ≠ p) (hqb : q ≠ b) (hqs : q ≠ s) (hx : EnsAt W oa X) (hxl : X.length ≤ 1000) (hxw : ∀ x ∈ X, (Lit.int .i64 x.s.ref).wf = true) :
    Calls Tryd.prog 14 #[.pointer (some ⟨p, 0, none⟩), .pointer (some ⟨q, 0, none⟩), .pointer (some ⟨b, 0, none⟩), .agg #[.int .i64 op, .int .i64 os, .bool ok, .slice oa X.length oc]] w (DoesEnd W p b s i m L q R op os X w) := by
  obtain ⟨w1, hw1⟩ : ∃ V, w.alloc (.cells #[.int .i64 op, .int .i64 os, .bool ok, .slice oa X.length oc] 44) = V := ⟨_, rfl⟩
  have hb1 : Below w.heap.size w w1 := by rw [← hw1]; exact (Below.refl _ _).alloc (Nat.le_refl _) _
  have hk1 : Blk w1 w.heap.size #[.int .i64 op, .int .i64 os, .bool ok, .slice oa X.length oc] 44 := by rw [← hw1]; exact Blk.new _ _ _
  obtain ⟨B, hB⟩ : ∃ n, w.heap.size = n := ⟨_, rfl⟩
  have hD : DoS W p b s i m L q ra rc R B #[.int .i64 op, .int .i64 os, .bool ok, .slice oa X.length oc] w w1 := ⟨h.after hb1, hq.after hb1, by rw [← hB]; exact hk1, Turn.of_below hb1⟩
  obtain ⟨l, hPl, hl0, hli⟩ := hD.bk.per
  have hbB : B ≠ b := by
    obtain ⟨l', hP', _⟩ := h.per
    have := hP'.lt.1
    omega
  have hBp : B ≠ p := by
    obtain ⟨bm, a, cap, E, h1, _⟩ := h.ex
    have := h1.blk.lt
    omega
  have hBq : B ∉ [q] := by
    have := hq.at'.blk.lt
    simp only [List.mem_singleton]
    omega
  have hl4 : l ≤ lastP 30 := Int.le_trans (show l ≤ 50 by omega) (by decide)
  have HD := Lib.hid hD
  have HPl := Lib.hid hPl
  have HX := Lib.hid hx
  have HXw := Lib.hid hxw
  have HRw := Lib.hid hRw
  have HW1 := Lib.hid hw1
  have HRu := Lib.hid hRu
  have HA := Lib.hid ha
  have c2 : w1.cell? ⟨B, 2, none⟩ = some (.bool ok) := hD.bx.cell 2 rfl
  have HB := Lib.hid hB
  clear hw1 hb1 hk1 hB hD hPl hx hxw hRw hRu ha h hq
  go_enter Tryd.func14, Tryd.ntmps14
  go_upto_if 16 with (fail)
  rw [HW1.out, HB.out]
  go_cut [9, 10] from 17 (fun v9 v10 wx => DoS W p b s (i + 1) m L q ra rc R B #[.int .i64 op, .int .i64 os, .bool ok, .slice oa X.length oc] w wx)
  case first =>
    cases ok
    · clear c2
      go_wp2_with fail
      go_meet
      case rel => exact ⟨HD.out.bk.up, HD.out.rq, HD.out.bx, HD.out.tn⟩
    · clear c2
      go_wp2_with fail
      with_reducible refine (pearliest_ok b s 30 l _ HPl.out (by omega) hl4).mono ?_
      rintro e w4 ⟨rfl, hb4⟩
      have HE4 := Lib.hid (HD.out.after hb4)
      have HP4 := Lib.hid (HPl.out.after hb4)
      clear hb4
      go_wp2_with fail
      with_reducible refine (plock_box b s l 73048 w4 HP4.out HE4.out.bk.pb hl0 (by omega)).mono ?_
      rintro e w5 hk
      obtain ⟨n, rfl, hE5⟩ := HE4.out.lock HA.out hl0 hli hqb hbB hk
      have HE5 := Lib.hid hE5
      clear hk hE5
      go_wp2_with fail
      go_meet
      case rel => exact HE5.out
  case rest =>
    have HDc := Lib.hid hcut
    obtain ⟨l', hP', hl0', hli'⟩ := hcut.bk.per
    obtain ⟨bm, a, cap, E, hLg, hEL⟩ := hcut.bk.ex
    have hln := llen_ok p bm a cap E wc hLg
    rw [show E.length = L.length by rw [← hEL]; simp] at hln
    have HLn := Lib.hid hln
    have HP' := Lib.hid hP'
    clear hcut c2 HD HPl hLg hEL hP' hln
    go_wp2_with fail
    with_reducible refine HLn.out.mono ?_
    rintro e w4 ⟨rfl, hw4⟩
    obtain rfl : wc = w4 := hw4.symm
    have HPost := Lib.hid (HDc.out.bk.post HA.out HRu.out hm HP'.out hl0' hli' op os oa oc X (HX.out.after HDc.out.bk.be) hxl HXw.out)
    obtain ⟨c0, c1, c3⟩ : wc.cell? ⟨B, 0, none⟩ = some (.int .i64 op) ∧ wc.cell? ⟨B, 1, none⟩ = some (.int .i64 os) ∧ wc.cell? ⟨B, 3, none⟩ = some (.slice oa X.length oc) := ⟨HDc.out.bx.cell 0 rfl, HDc.out.bx.cell 1 rfl, HDc.out.bx.cell 3 rfl⟩
    clear HLn
    go_wp2_with fail
    with_reducible refine HPost.out.mono ?_
    rintro e w5 ⟨er, her, rfl, hBk5, hP5, hT5⟩
    obtain ⟨nn, hnn⟩ : ∃ n, (if er = 0 then (L.length : Int) else 0) = n := ⟨_, rfl⟩
    rw [hnn]
    have HNn := Lib.hid hnn
    clear hnn
    have HEr0 := Lib.hid her
    have HBk5 := Lib.hid hBk5
    have HP5 := Lib.hid hP5
    have hbx : ∀ x ∈ [p], Bx wc x := fun x hx => by
      rw [List.mem_singleton.1 hx]
      obtain ⟨bm, a, cap, E, hLg, _⟩ := HDc.out.bk.ex
      exact .inl hLg.box
    have HRq5 := Lib.hid (HDc.out.rq.turn2 hT5 hbx (by simpa using hqp))
    have HTn5 : Hid (Turn [p, b, q] w w5) := HDc.out.tn.trans (hT5.mono (by simp))
    have HBx5 := Lib.hid (hT5.blk HDc.out.bx (by simpa using hBp))
    have HPl : Hid (∀ V, Below w5.heap.size w5 V → Calls Tryd.prog 40 #[.slice oa X.length oc] V (PlainsEnd V X)) := fun V hV => plains_ok oa oc X V (HX.out.after (HBk5.out.be.trans (hV.mono HBk5.out.be.size))) hxl
    have HPo0 : ∀ there lk : Bool, (there = true → 0 ≤ op) → ∀ V c k X', Below w5.heap.size w5 V → X'.length = X.length → X'.map En.p = X.map En.p → EnsAt V c X' → Calls Tryd.prog 38 #[.pointer (some ⟨q, 0, none⟩), .bool there, .bool lk, .int .i64 op, .int .i64 os, .slice c X.length k] V fun e w' => ∃ wn a' c' R', e = .returned (.int .i64 wn) ∧ wn = postE there lk op os (R.map En.p) (X.map En.p) ∧ RqOk w' q a' c' R' ∧ R'.map En.p = postL there lk op os (R.map En.p) (X.map En.p) ∧ Turn [q] V w' := fun there lk ht V c k X' hV h1 h2 h3 => by
      have := rpost_ok q ra rc R there lk op os c k X' V (HRq5.out.after hV) HRw.out (by omega) ht h3 (by omega)
      rw [h1] at this
      refine this.mono ?_
      rintro e w' ⟨a', c', R', rfl, k1, k2, k3⟩
      rw [h2] at k2 ⊢
      exact ⟨_, a', c', R', rfl, rfl, k1, k2, k3⟩
    obtain ⟨c0, c1, c3⟩ : w5.cell? ⟨B, 0, none⟩ = some (.int .i64 op) ∧ w5.cell? ⟨B, 1, none⟩ = some (.int .i64 os) ∧ w5.cell? ⟨B, 3, none⟩ = some (.slice oa X.length oc) := ⟨HBx5.out.cell 0 rfl, HBx5.out.cell 1 rfl, HBx5.out.cell 3 rfl⟩
    clear her hBk5 hP5 hT5 hbx HPost HDc HP' HX HXw HRw
    by_cases hop : 0 ≤ op
    case neg =>
      have d0 : decide (0 ≤ op) = false := decide_eq_false hop
      have e1 : decide (0 ≤ op ∧ op ≤ lastP 30) = false := decide_eq_false fun h => hop h.1
      have HLk : Hid (∀ V, Below w5.heap.size w5 V → Calls Tryd.prog 32 #[.pointer (some ⟨b, 0, none⟩), .int .i64 op] V fun e w' => e = .returned (.bool false) ∧ Below V.heap.size V w') := fun V hV => plocked_bad b s 30 l' op V (HP5.out.after hV) (by omega) (by omega)
      have HPo := Lib.hid (HPo0 false false (by simp))
      have HEr : Hid (postE false false op os L (X.map En.p) = er) := by show _ = _; rw [HEr0.out, e1]; rfl
      have HLL : Hid (postL false false op os L (X.map En.p) = postL (decide (0 ≤ op ∧ op ≤ lastP 30)) (decide (op < l')) op os L (X.map En.p)) := by show _ = _; rw [e1]; rfl
      clear HPo0 HEr0 e1 hop
      go_wp2_with fail
      have HS : Hid (∀ W' : World, Below w5.heap.size w5 W' → W'.cell? ⟨B, 0, none⟩ = some (.int .i64 op) ∧ W'.cell? ⟨B, 1, none⟩ = some (.int .i64 os) ∧ W'.cell? ⟨B, 3, none⟩ = some (.slice oa X.length oc)) := fun W' hW => ⟨(HBx5.out.after hW).cell 0 rfl, (HBx5.out.after hW).cell 1 rfl, (HBx5.out.after hW).cell 3 rfl⟩
      refine wp_region_final (fun W' => W'.cell? ⟨B, 0, none⟩ = some (.int .i64 op) ∧ W'.cell? ⟨B, 1, none⟩ = some (.int .i64 os) ∧ W'.cell? ⟨B, 3, none⟩ = some (.slice oa X.length oc)) 23 (by kernel_rfl) ?_
      have bd : Below w5.heap.size w5 w5.drew := (Below.refl _ _).drew
      have hSd := HS.out _ bd
      obtain ⟨wq, hwq⟩ : ∃ V, w5.drew = V := ⟨_, rfl⟩
      rw [hwq] at bd hSd ⊢
      clear hwq
      refine fT_take (i := 0) (v := ?_) rfl (by kernel_rfl) (fun _ _ _ h => h) (by rfl) hSd ?_ ?_
      rotate_left 1
      · intro wS hSw
        obtain ⟨s0, s1, s2⟩ := hSw
        go_simp
        try with_reducible rfl
      try simp only [Act.put, List.setIfInBounds_toArray, List.set_cons_zero, List.set_cons_succ]
      refine fT_take (i := 1) (v := ?_) rfl (by kernel_rfl) (fun _ _ _ h => h) (by rfl) hSd ?_ ?_
      rotate_left 1
      · intro wS hSw
        obtain ⟨s0, s1, s2⟩ := hSw
        go_simp
        try with_reducible rfl
      try simp only [Act.put, List.setIfInBounds_toArray, List.set_cons_zero, List.set_cons_succ]
      refine fT_take (i := 2) (v := ?_) rfl (by kernel_rfl) (fun _ _ _ h => h) (by rfl) hSd ?_ ?_
      rotate_left 1
      · intro wS hSw
        obtain ⟨s0, s1, s2⟩ := hSw
        go_simp
        try with_reducible rfl
      try simp only [Act.put, List.setIfInBounds_toArray, List.set_cons_zero, List.set_cons_succ]
      refine fT_take (i := 3) (v := ?_) rfl (by kernel_rfl) (fun _ _ _ h => h) (by rfl) hSd ?_ ?_
      rotate_left 1
      · intro wS hSw
        obtain ⟨s0, s1, s2⟩ := hSw
        go_simp
        try with_reducible rfl
      try simp only [Act.put, List.setIfInBounds_toArray, List.set_cons_zero, List.set_cons_succ]
      refine fT_take (i := 4) (v := ?_) rfl (by kernel_rfl) (fun _ _ _ h => h) (by rfl) hSd ?_ ?_
      rotate_left 1
      · intro wS hSw
        obtain ⟨s0, s1, s2⟩ := hSw
        go_simp
        try with_reducible rfl
      try simp only [Act.put, List.setIfInBounds_toArray, List.set_cons_zero, List.set_cons_succ]
      refine fT_skip (i := 5) rfl (by kernel_rfl) (fun _ _ _ h => h) (by rfl) hSd ?_
      try simp only [Act.put, List.setIfInBounds_toArray, List.set_cons_zero, List.set_cons_succ]
      refine fT_skip (i := 6) rfl (by kernel_rfl) (fun _ _ _ h => h) (by rfl) hSd ?_
      try simp only [Act.put, List.setIfInBounds_toArray, List.set_cons_zero, List.set_cons_succ]
      refine fT_skip (i := 7) rfl (by kernel_rfl) (fun _ _ _ h => h) (by rfl) hSd ?_
      try simp only [Act.put, List.setIfInBounds_toArray, List.set_cons_zero, List.set_cons_succ]
      refine fT_skip (i := 8) rfl (by kernel_rfl) (fun _ _ _ h => h) (by rfl) hSd ?_
      try simp only [Act.put, List.setIfInBounds_toArray, List.set_cons_zero, List.set_cons_succ]
      refine fT_skip (i := 9) rfl (by kernel_rfl) (fun _ _ _ h => h) (by rfl) hSd ?_
      try simp only [Act.put, List.setIfInBounds_toArray, List.set_cons_zero, List.set_cons_succ]
      refine fT_take (i := 10) (v := ?_) rfl (by kernel_rfl) (fun _ _ _ h => h) (by rfl) hSd ?_ ?_
      rotate_left 1
      · intro wS hSw
        obtain ⟨s0, s1, s2⟩ := hSw
        go_simp
        try with_reducible rfl
      try simp only [Act.put, List.setIfInBounds_toArray, List.set_cons_zero, List.set_cons_succ]
      refine fT_take (i := 11) (v := ?_) rfl (by kernel_rfl) (fun _ _ _ h => h) (by rfl) hSd ?_ ?_
      rotate_left 1
      · intro wS hSw
        obtain ⟨s0, s1, s2⟩ := hSw
        go_simp
        try with_reducible rfl
      try simp only [Act.put, List.setIfInBounds_toArray, List.set_cons_zero, List.set_cons_succ]
      refine fT_take (i := 12) (v := ?_) rfl (by kernel_rfl) (fun _ _ _ h => h) (by rfl) hSd ?_ ?_
      rotate_left 1
      · intro wS hSw
        obtain ⟨s0, s1, s2⟩ := hSw
        go_simp
        try with_reducible rfl
      try simp only [Act.put, List.setIfInBounds_toArray, List.set_cons_zero, List.set_cons_succ]
      refine fT_take (i := 13) (v := ?_) rfl (by kernel_rfl) (fun _ _ _ h => h) (by rfl) hSd ?_ ?_
      rotate_left 1
      · intro wS hSw
        obtain ⟨s0, s1, s2⟩ := hSw
        go_simp
        try with_reducible rfl
      try simp only [Act.put, List.setIfInBounds_toArray, List.set_cons_zero, List.set_cons_succ]
      refine fT_take (i := 15) (v := ?_) rfl (by kernel_rfl) (fun _ _ _ h => h) (by rfl) hSd ?_ ?_
      rotate_left 1
      · intro wS hSw
        obtain ⟨s0, s1, s2⟩ := hSw
        go_simp
        try with_reducible rfl
      try simp only [Act.put, List.setIfInBounds_toArray, List.set_cons_zero, List.set_cons_succ]
      refine fT_take (i := 16) (v := ?_) rfl (by kernel_rfl) (fun _ _ _ h => h) (by rfl) hSd ?_ ?_
      rotate_left 1
      · intro wS hSw
        obtain ⟨s0, s1, s2⟩ := hSw
        go_simp
        try with_reducible rfl
      try simp only [Act.put, List.setIfInBounds_toArray, List.set_cons_zero, List.set_cons_succ]
      refine fT_take (i := 17) (v := ?_) rfl (by kernel_rfl) (fun _ _ _ h => h) (by rfl) hSd ?_ ?_
      rotate_left 1
      · intro wS hSw
        obtain ⟨s0, s1, s2⟩ := hSw
        go_simp
        try with_reducible rfl
      try simp only [Act.put, List.setIfInBounds_toArray, List.set_cons_zero, List.set_cons_succ]
      refine fT_take (i := 18) (v := ?_) rfl (by kernel_rfl) (fun _ _ _ h => h) (by rfl) hSd ?_ ?_
      rotate_left 1
      · intro wS hSw
        obtain ⟨s0, s1, s2⟩ := hSw
        go_simp
        try with_reducible rfl
      try simp only [Act.put, List.setIfInBounds_toArray, List.set_cons_zero, List.set_cons_succ]
      refine fT_take (i := 19) (v := ?_) rfl (by kernel_rfl) (fun _ _ _ h => h) (by rfl) hSd ?_ ?_
      rotate_left 1
      · intro wS hSw
        obtain ⟨s0, s1, s2⟩ := hSw
        go_simp
        try with_reducible rfl
      try simp only [Act.put, List.setIfInBounds_toArray, List.set_cons_zero, List.set_cons_succ]
      refine fT_take (i := 20) (v := ?_) rfl (by kernel_rfl) (fun _ _ _ h => h) (by rfl) hSd ?_ ?_
      rotate_left 1
      · intro wS hSw
        obtain ⟨s0, s1, s2⟩ := hSw
        go_simp
        try with_reducible rfl
      try simp only [Act.put, List.setIfInBounds_toArray, List.set_cons_zero, List.set_cons_succ]
      refine wpAnyF_next (i := 14) rfl (by kernel_rfl) (fun K hK => ?_)
      go_simp
      with_reducible refine (HLk.out _ bd).mono ?_
      rintro e w7 ⟨rfl, hb7⟩
      have b7 := bd.trans (hb7.mono bd.size)
      refine hK.out _ _ (.inr (HS.out _ b7)) ?_
      clear hK K
      try simp only [Act.put, List.setIfInBounds_toArray, List.set_cons_zero, List.set_cons_succ]
      refine wpAnyF_next (i := 21) rfl (by kernel_rfl) (fun K hK => ?_)
      go_simp
      with_reducible refine (HPl.out _ b7).mono ?_
      rintro e w8 ⟨c8, k8, X8, rfl, hx8, hp8, he8, hb8⟩
      have b8 := b7.trans (hb8.mono b7.size)
      refine hK.out _ _ (.inr (HS.out _ b8)) ?_
      clear hK K
      try simp only [Act.put, List.setIfInBounds_toArray, List.set_cons_zero, List.set_cons_succ]
      refine wpAnyF_next (i := 22) rfl (by kernel_rfl) (fun K hK => ?_)
      go_simp
      with_reducible refine (HPo.out _ c8 k8 X8 b8 hx8 hp8 he8).mono ?_
      rintro e w9 ⟨wn, ra9, rc9, R9, rfl, hwn, hq9, hR9, ht9⟩
      have HWn := Lib.hid hwn
      clear hwn
      have hs9 : w9.cell? ⟨B, 0, none⟩ = some (.int .i64 op) ∧ w9.cell? ⟨B, 1, none⟩ = some (.int .i64 os) ∧ w9.cell? ⟨B, 3, none⟩ = some (.slice oa X.length oc) := ⟨(ht9.blk (HBx5.out.after b8) hBq).cell 0 rfl, (ht9.blk (HBx5.out.after b8) hBq).cell 1 rfl, (ht9.blk (HBx5.out.after b8) hBq).cell 3 rfl⟩
      refine hK.out _ _ (.inr hs9) ?_
      clear hK K
      try simp only [Act.put, List.setIfInBounds_toArray, List.set_cons_zero, List.set_cons_succ]
      refine wpAnyF_next (i := 23) rfl (by kernel_rfl) (fun K hK => ?_)
      go_simp
      refine hK.out _ _ (.inl rfl) ?_
      clear hK K
      try simp only [Act.put, List.setIfInBounds_toArray, List.set_cons_zero, List.set_cons_succ]
      refine wpAnyF_done (by kernel_rfl) ?_ _
      clear hSd bd
      have HEnd : Hid (∀ r : Bool, (R.map En.p = L → r = true) → DoesEnd W p b s i m L q R op os X w (.returned (.bool r)) w9) := fun r hr => ⟨r, _, ra9, rc9, R9, rfl, (HBk5.out.after b8).turn3 ht9 ((HRq5.out.after b8).box) hqW hqp hqb hqs, hq9, (HTn5.out.trans (Turn.of_below b8)).trans (ht9.mono (by simp)), fun e => ⟨hr e, by rw [hR9, e]; exact HLL.out⟩⟩
      clear hs9 hq9 hR9 ht9 hx8 hp8 he8 hb8 b8 b7 HS HPl HPo HBk5 HRq5 HBx5 HTn5
      by_cases hRL : R.map En.p = L
      · obtain rfl : wn = er := by rw [HWn.out, hRL]; exact HEr.out
        have HE := Lib.hid (HEnd.out true fun _ => rfl)
        clear hRL HEnd
        by_cases h0 : wn = 0
        · obtain rfl : (L.length : Int) = nn := by rw [← HNn.out, if_pos h0]
          subst h0
          go_wp2_with fail
          go_ret
          exact HE.out
        · have d3 : (wn == 0) = false := by rw [beq_eq_false_iff_ne]; exact h0
          have d4 : (wn != 0) = true := by rw [bne_iff_ne]; exact h0
          obtain rfl : (0 : Int) = nn := by rw [← HNn.out, if_neg h0]
          clear h0
          go_wp2_with fail
          go_ret
          exact HE.out
      · have HE : Hid (∀ r : Bool, DoesEnd W p b s i m L q R op os X w (.returned (.bool r)) w9) := fun r => HEnd.out r fun e => absurd e hRL
        clear hRL HEnd
        go_wp2_with fail
        all_goals (go_ret; exact HE.out _)
    case pos =>
      have d0 : decide (0 ≤ op) = true := decide_eq_true hop
      obtain ⟨lp, hlp⟩ : ∃ n, lastP 30 = n := ⟨_, rfl⟩
      have HLa : Hid (∀ V, Below w5.heap.size w5 V → Calls Tryd.prog 39 #[.pointer (some ⟨b, 0, none⟩)] V fun e w' => e = .returned (.int .i64 lp) ∧ Below V.heap.size V w') := fun V hV => by
        have := plast_ok b s 30 l' V (HP5.out.after hV) (by omega)
        rwa [hlp] at this
      by_cases hol : op ≤ lp
      · have d1 : decide (op ≤ lp) = true := decide_eq_true hol
        have e1 : decide (0 ≤ op ∧ op ≤ lastP 30) = true := decide_eq_true ⟨hop, by omega⟩
        obtain ⟨lk, hlk⟩ : ∃ k, decide (op < l') = k := ⟨_, rfl⟩
        have HLk : Hid (∀ V, Below w5.heap.size w5 V → Calls Tryd.prog 32 #[.pointer (some ⟨b, 0, none⟩), .int .i64 op] V fun e w' => e = .returned (.bool lk) ∧ Below V.heap.size V w') := fun V hV => by
          have := plocked_ok b s 30 l' op V (HP5.out.after hV) (by omega) hop (by omega)
          rwa [hlk] at this
        have HPo := Lib.hid (HPo0 true lk (fun _ => hop))
        have HEr : Hid (postE true lk op os L (X.map En.p) = er) := by show _ = _; rw [HEr0.out, e1, hlk]
        have HLL : Hid (postL true lk op os L (X.map En.p) = postL (decide (0 ≤ op ∧ op ≤ lastP 30)) (decide (op < l')) op os L (X.map En.p)) := by show _ = _; rw [e1, hlk]
        clear HPo0 HEr0 e1 hop hlk hol hlp
        go_wp2_with fail
        have HS : Hid (∀ W' : World, Below w5.heap.size w5 W' → W'.cell? ⟨B, 0, none⟩ = some (.int .i64 op) ∧ W'.cell? ⟨B, 1, none⟩ = some (.int .i64 os) ∧ W'.cell? ⟨B, 3, none⟩ = some (.slice oa X.length oc)) := fun W' hW => ⟨(HBx5.out.after hW).cell 0 rfl, (HBx5.out.after hW).cell 1 rfl, (HBx5.out.after hW).cell 3 rfl⟩
        have bd : Below w5.heap.size w5 w5.drew := (Below.refl _ _).drew
        go_region_held3 (fun W' => W'.cell? ⟨B, 0, none⟩ = some (.int .i64 op) ∧ W'.cell? ⟨B, 1, none⟩ = some (.int .i64 os) ∧ W'.cell? ⟨B, 3, none⟩ = some (.slice oa X.length oc))
          (first | with_reducible exact HS.out _ bd | with_reducible exact HS.out _ b6 | with_reducible exact HS.out _ b7 | with_reducible exact HS.out _ b8 | with_reducible exact hs9)
          (first
            | (go_at_call 39; (with_reducible refine (HLa.out _ bd).mono ?_); rintro e w6 ⟨rfl, hb6⟩; have b6 := bd.trans (hb6.mono bd.size)) | (go_at_call 32; (with_reducible refine (HLk.out _ b6).mono ?_); rintro e w7 ⟨rfl, hb7⟩; have b7 := b6.trans (hb7.mono b6.size))
            | (go_at_call 40; (with_reducible refine (HPl.out _ b7).mono ?_); rintro e w8 ⟨c8, k8, X8, rfl, hx8, hp8, he8, hb8⟩; have b8 := b7.trans (hb8.mono b7.size))
            | (go_at_call 38; (with_reducible refine (HPo.out _ c8 k8 X8 b8 hx8 hp8 he8).mono ?_); rintro e w9 ⟨wn, ra9, rc9, R9, rfl, hwn, hq9, hR9, ht9⟩; have HWn := Lib.hid hwn; clear hwn; have hs9 : w9.cell? ⟨B, 0, none⟩ = some (.int .i64 op) ∧ w9.cell? ⟨B, 1, none⟩ = some (.int .i64 os) ∧ w9.cell? ⟨B, 3, none⟩ = some (.slice oa X.length oc) := ⟨(ht9.blk (HBx5.out.after b8) hBq).cell 0 rfl, (ht9.blk (HBx5.out.after b8) hBq).cell 1 rfl, (ht9.blk (HBx5.out.after b8) hBq).cell 3 rfl⟩))
        have HEnd : Hid (∀ r : Bool, (R.map En.p = L → r = true) → DoesEnd W p b s i m L q R op os X w (.returned (.bool r)) w9) := fun r hr => ⟨r, _, ra9, rc9, R9, rfl, (HBk5.out.after b8).turn3 ht9 ((HRq5.out.after b8).box) hqW hqp hqb hqs, hq9, (HTn5.out.trans (Turn.of_below b8)).trans (ht9.mono (by simp)), fun e => ⟨hr e, by rw [hR9, e]; exact HLL.out⟩⟩
        clear hs9 hq9 hR9 ht9 hx8 hp8 he8 hb8 b8 b7 HS HPl HPo HBk5 HRq5 HBx5 HTn5
        by_cases hRL : R.map En.p = L
        · obtain rfl : wn = er := by rw [HWn.out, hRL]; exact HEr.out
          have HE := Lib.hid (HEnd.out true fun _ => rfl)
          clear hRL HEnd
          by_cases h0 : wn = 0
          · obtain rfl : (L.length : Int) = nn := by rw [← HNn.out, if_pos h0]
            subst h0
            go_wp2_with fail
            go_ret
            exact HE.out
          · have d3 : (wn == 0) = false := by rw [beq_eq_false_iff_ne]; exact h0
            have d4 : (wn != 0) = true := by rw [bne_iff_ne]; exact h0
            obtain rfl : (0 : Int) = nn := by rw [← HNn.out, if_neg h0]
            clear h0
            go_wp2_with fail
            go_ret
            exact HE.out
        · have HE : Hid (∀ r : Bool, DoesEnd W p b s i m L q R op os X w (.returned (.bool r)) w9) := fun r => HEnd.out r fun e => absurd e hRL
          clear hRL HEnd
          go_wp2_with fail
          all_goals (go_ret; exact HE.out _)
      · have d1 : decide (op ≤ lp) = false := decide_eq_false hol
        have e1 : decide (0 ≤ op ∧ op ≤ lastP 30) = false := decide_eq_false fun h => by omega
        have HLk : Hid (∀ V, Below w5.heap.size w5 V → Calls Tryd.prog 32 #[.pointer (some ⟨b, 0, none⟩), .int .i64 op] V fun e w' => e = .returned (.bool false) ∧ Below V.heap.size V w') := fun V hV => plocked_bad b s 30 l' op V (HP5.out.after hV) (by omega) (by omega)
        have HPo := Lib.hid (HPo0 false false (by simp))
        have HEr : Hid (postE false false op os L (X.map En.p) = er) := by show _ = _; rw [HEr0.out, e1]; rfl
        have HLL : Hid (postL false false op os L (X.map En.p) = postL (decide (0 ≤ op ∧ op ≤ lastP 30)) (decide (op < l')) op os L (X.map En.p)) := by show _ = _; rw [e1]; rfl
        clear HPo0 HEr0 e1 hop hol hlp
        go_wp2_with fail
        have HS : Hid (∀ W' : World, Below w5.heap.size w5 W' → W'.cell? ⟨B, 0, none⟩ = some (.int .i64 op) ∧ W'.cell? ⟨B, 1, none⟩ = some (.int .i64 os) ∧ W'.cell? ⟨B, 3, none⟩ = some (.slice oa X.length oc)) := fun W' hW => ⟨(HBx5.out.after hW).cell 0 rfl, (HBx5.out.after hW).cell 1 rfl, (HBx5.out.after hW).cell 3 rfl⟩
        have bd : Below w5.heap.size w5 w5.drew := (Below.refl _ _).drew
        go_region_held3 (fun W' => W'.cell? ⟨B, 0, none⟩ = some (.int .i64 op) ∧ W'.cell? ⟨B, 1, none⟩ = some (.int .i64 os) ∧ W'.cell? ⟨B, 3, none⟩ = some (.slice oa X.length oc))
          (first | with_reducible exact HS.out _ bd | with_reducible exact HS.out _ b6 | with_reducible exact HS.out _ b7 | with_reducible exact HS.out _ b8 | with_reducible exact hs9)
          (first
            | (go_at_call 39; (with_reducible refine (HLa.out _ bd).mono ?_); rintro e w6 ⟨rfl, hb6⟩; have b6 := bd.trans (hb6.mono bd.size)) | (go_at_call 32; (with_reducible refine (HLk.out _ b6).mono ?_); rintro e w7 ⟨rfl, hb7⟩; have b7 := b6.trans (hb7.mono b6.size))
            | (go_at_call 40; (with_reducible refine (HPl.out _ b7).mono ?_); rintro e w8 ⟨c8, k8, X8, rfl, hx8, hp8, he8, hb8⟩; have b8 := b7.trans (hb8.mono b7.size))
            | (go_at_call 38; (with_reducible refine (HPo.out _ c8 k8 X8 b8 hx8 hp8 he8).mono ?_); rintro e w9 ⟨wn, ra9, rc9, R9, rfl, hwn, hq9, hR9, ht9⟩; have HWn := Lib.hid hwn; clear hwn; have hs9 : w9.cell? ⟨B, 0, none⟩ = some (.int .i64 op) ∧ w9.cell? ⟨B, 1, none⟩ = some (.int .i64 os) ∧ w9.cell? ⟨B, 3, none⟩ = some (.slice oa X.length oc) := ⟨(ht9.blk (HBx5.out.after b8) hBq).cell 0 rfl, (ht9.blk (HBx5.out.after b8) hBq).cell 1 rfl, (ht9.blk (HBx5.out.after b8) hBq).cell 3 rfl⟩))
        have HEnd : Hid (∀ r : Bool, (R.map En.p = L → r = true) → DoesEnd W p b s i m L q R op os X w (.returned (.bool r)) w9) := fun r hr => ⟨r, _, ra9, rc9, R9, rfl, (HBk5.out.after b8).turn3 ht9 ((HRq5.out.after b8).box) hqW hqp hqb hqs, hq9, (HTn5.out.trans (Turn.of_below b8)).trans (ht9.mono (by simp)), fun e => ⟨hr e, by rw [hR9, e]; exact HLL.out⟩⟩
        clear hs9 hq9 hR9 ht9 hx8 hp8 he8 hb8 b8 b7 HS HPl HPo HBk5 HRq5 HBx5 HTn5
        by_cases hRL : R.map En.p = L
        · obtain rfl : wn = er := by rw [HWn.out, hRL]; exact HEr.out
          have HE := Lib.hid (HEnd.out true fun _ => rfl)
          clear hRL HEnd
          by_cases h0 : wn = 0
          · obtain rfl : (L.length : Int) = nn := by rw [← HNn.out, if_pos h0]
            subst h0
            go_wp2_with fail
            go_ret
            exact HE.out
          · have d3 : (wn == 0) = false := by rw [beq_eq_false_iff_ne]; exact h0
            have d4 : (wn != 0) = true := by rw [bne_iff_ne]; exact h0
            obtain rfl : (0 : Int) = nn := by rw [← HNn.out, if_neg h0]
            clear h0
            go_wp2_with fail
            go_ret
            exact HE.out
        · have HE : Hid (∀ r : Bool, DoesEnd W p b s i m L q R op os X w (.returned (.bool r)) w9) := fun r => HEnd.out r fun e => absurd e hRL
          clear hRL HEnd
          go_wp2_with fail
          all_goals (go_ret; exact HE.out _)

end Go.Proofs.YtpinhomalmknjaaDoor
