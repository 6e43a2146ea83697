/- Package ledger: Post. -/
import Derived.Test.YtmjgcenhgpkhiaaDoorMgG
import Derived.Test.YtmjgcenhgpkhiaaDoorPrd
import Derived.StillTailTactics
namespace Go.Proofs.YtmjgcenhgpkhiaaDoor
open Go.RowKit Go.Sort Go.Shelf
set_option linter.unusedVariables false
set_option linter.unusedSimpArgs false

def PostEnd (w : World) (p : Nat) (E : List En) (there lk : Bool) (per seq : Int) (X : List En) (e : Ending) (w' : World) : Prop :=
  ∃ bm' a' cap' E', e = .returned (.tuple #[.int .i64 (if postE there lk per seq (E.map En.p) (X.map En.p) = 0 then (E.length : Int) else 0), .int .i64 (postE there lk per seq (E.map En.p) (X.map En.p))]) ∧ LgAt w' p bm' a' cap' E' ∧ E'.map En.p = postL there lk per seq (E.map En.p) (X.map En.p) ∧ Turn [p] w w'
theorem PostEnd.bad {w w' : World} {p bm : Nat} {a : Option Addr} {cap : Nat} {E : List En} {there lk : Bool} {per seq : Int} {X : List En} {n : Int} (h : LgAt w p bm a cap E) (hb : Below w.heap.size w w') (hn : postE there lk per seq (E.map En.p) (X.map En.p) = n) (h0 : n ≠ 0) : PostEnd w p E there lk per seq X (.returned (.tuple #[.int .i64 0, .int .i64 n])) w' := by
  refine ⟨bm, a, cap, E, ?_, h.after hb, ?_, Turn.of_below hb |> fun h => (⟨h.os, h.tape, h.output, h.size, h.block⟩ : Turn _ _ _)⟩
  · rw [hn, if_neg h0]
  · unfold postL; rw [hn, if_neg h0]

/-- The lines of an entry do not lie in a row. -/
def LnFar (v : Value) (e : En) : Prop := ∀ x, e.a = some x → 0 < e.ls.length → v.ownBlock ≠ some x.block
/-- Entries put so far. -/
structure PRel (w : World) (p1 bm1 : Nat) (per seq : Int) (L xs : List EnP) (j : Nat) (wr : World) : Prop where
  ex : ∃ a' cap' E', LgAt wr p1 bm1 a' cap' E' ∧ wr.ownsRow w.heap.size 26 7 (.slice a' E'.length cap') E'.length (cellsL En.cs E') ∧ E'.map En.p = L ++ (xs.take j).map (stamp per seq) ∧ ∀ e ∈ E', LnFar (.slice a' E'.length cap') e
  be : Below w.heap.size w wr
  ok : ∀ i, i < j → ∀ x, xs[i]? = some x → wrongE (L ++ (xs.take i).map (stamp per seq)) x = 0
/-- An entry, ready to be put: its box in B, the map turned already. -/
structure PMid (w : World) (p1 bm1 : Nat) (a : Option Addr) (cap : Nat) (E : List En) (B : Nat) (y : En) (wz : World) : Prop where
  kp : Blk wz p1 #[.slice a E.length cap, .map (some bm1)] 87
  own : wz.ownsRow w.heap.size 26 7 (.slice a E.length cap) E.length (cellsL En.cs E)
  kb : Blk wz B y.cs.toArray 26
  mp : MapAt OkN wz bm1 (byM (E.map En.p ++ [y.p]))
  ok : ∀ e ∈ E, EnOk wz e
  oy : EnOk wz y
  be : Below w.heap.size w wz
  hp : w.heap.size ≤ p1
  far : ∀ e ∈ E ++ [y], LnFar (.slice a E.length cap) e
theorem PMid.after {w : World} {p1 bm1 : Nat} {a : Option Addr} {cap : Nat} {E : List En} {B : Nat} {y : En} {wz wq : World} (h : PMid w p1 bm1 a cap E B y wz) (hb : Below wz.heap.size wz wq) : PMid w p1 bm1 a cap E B y wq :=
  ⟨h.kp.after hb, own_after h.own hb, h.kb.after hb, h.mp.after hb, fun e he => (h.ok e he).after hb, h.oy.after hb, h.be.trans (hb.mono h.be.size), h.hp, h.far⟩
theorem own_map_ne {w : World} {ok : Value → Prop} {base bm size n : Nat} {e : TypeId} {v : Value} {xs : List Value} {M : List (Value × Value)} (ho : w.ownsRow base e size v n xs) (hm : MapAt ok w bm M) : v.ownBlock ≠ some bm := fun hg => by
  obtain ⟨cur, hc⟩ := (own_cells ho hg).2.2
  obtain ⟨es, cl, he, _⟩ := hm
  rw [hc] at he
  cases he
/-- The like, less the map. -/
structure PMid0 (w : World) (p1 bm1 : Nat) (a : Option Addr) (cap : Nat) (E : List En) (B : Nat) (y : En) (wz : World) : Prop where
  kp : Blk wz p1 #[.slice a E.length cap, .map (some bm1)] 87
  own : wz.ownsRow w.heap.size 26 7 (.slice a E.length cap) E.length (cellsL En.cs E)
  kb : Blk wz B y.cs.toArray 26
  ok : ∀ e ∈ E, EnOk wz e
  oy : EnOk wz y
  be : Below w.heap.size w wz
  hp : w.heap.size ≤ p1
  far : ∀ e ∈ E ++ [y], LnFar (.slice a E.length cap) e
theorem PMid0.mid {w : World} {p1 bm1 : Nat} {a : Option Addr} {cap : Nat} {E : List En} {B : Nat} {y : En} {wz : World} (h : PMid0 w p1 bm1 a cap E B y wz) (hm : MapAt OkN wz bm1 (byM (E.map En.p ++ [y.p]))) : PMid w p1 bm1 a cap E B y wz :=
  ⟨h.kp, h.own, h.kb, hm, h.ok, h.oy, h.be, h.hp, h.far⟩
theorem Blk.map_ne {ok : Value → Prop} {w : World} {B bm : Nat} {cs : Array Value} {T : TypeId} {M : List (Value × Value)} (h : Blk w B cs T) (hm : MapAt ok w bm M) : some bm ≠ some B := fun e => by
  obtain ⟨es, cl, he, _⟩ := hm
  have h' : w.heap[B]? = some (.cells cs T (0, 0)) := h
  rw [← Option.some.inj e, he] at h'
  cases h'
theorem LnAt.mapped {ok : Value → Prop} {w w' : World} {bm : Nat} {M : List (Value × Value)} {a : Option Addr} {ls : List Ln} (h : LnAt w a ls) (hm : MapAt ok w bm M) (hg : w.grownBy w' (some bm)) : LnAt w' a ls := fun hl => by
  obtain ⟨b, o, e, hc⟩ := h hl
  have hne : some bm ≠ some b := fun e1 => by
    obtain ⟨es, cl, he, _⟩ := hm
    have h0 := (hc 0 hl).1
    rw [Option.some.inj e1] at he
    simp [World.cell?, he] at h0
  exact ⟨b, o, e, fun i hi => ⟨grown_cell hg (hc i hi).1 hne, grown_cell hg (hc i hi).2.1 hne, grown_cell hg (hc i hi).2.2 hne⟩⟩
theorem PMid0.mapped {ok : Value → Prop} {w : World} {p1 bm1 : Nat} {a : Option Addr} {cap : Nat} {E : List En} {B : Nat} {y : En} {wz wn : World} {M : List (Value × Value)} (h : PMid0 w p1 bm1 a cap E B y wz) (hm : MapAt ok wz bm1 M) (hg : wz.grownBy wn (some bm1)) (hb : w.heap.size ≤ bm1) : PMid0 w p1 bm1 a cap E B y wn :=
  ⟨h.kp.grown hg (h.kp.map_ne hm), own_kept h.own hg (fun g e q => own_map_ne h.own hm (by rw [e]; exact q.symm)), h.kb.grown hg (h.kb.map_ne hm), fun e he => ⟨(h.ok e he).ln.mapped hm hg, (h.ok e he).wf, (h.ok e he).few, (h.ok e he).nil⟩,
   ⟨h.oy.ln.mapped hm hg, h.oy.wf, h.oy.few, h.oy.nil⟩, h.be.grown hg h.be.size (fun q e => by cases e; exact hb), h.hp, h.far⟩
theorem PMid0.after {w : World} {p1 bm1 : Nat} {a : Option Addr} {cap : Nat} {E : List En} {B : Nat} {y : En} {wz wq : World} (h : PMid0 w p1 bm1 a cap E B y wz) (hb : Below wz.heap.size wz wq) : PMid0 w p1 bm1 a cap E B y wq :=
  ⟨h.kp.after hb, own_after h.own hb, h.kb.after hb, fun e he => (h.ok e he).after hb, h.oy.after hb, h.be.trans (hb.mono h.be.size), h.hp, h.far⟩
theorem own_low {w : World} {base base' e size n : Nat} {v : Value} {xs : List Value} (h : w.ownsRow base e size v n xs) (hb : base' ≤ base) : w.ownsRow base' e size v n xs := ⟨h.1, h.2.imp id fun ⟨g, cap, cur, h1, h2, h3⟩ => ⟨g, cap, cur, h1, Nat.le_trans hb h2, h3⟩⟩
/-- The entry put at the end. -/
theorem PMid.put {w : World} {p1 bm1 : Nat} {a : Option Addr} {cap : Nat} {E : List En} {B : Nat} {y : En} {wq wG : World} {g c3 : Nat} {per seq : Int} {L xs : List EnP} {j : Nat} {x : EnP} (h : PMid w p1 bm1 a cap E B y wq)
    (hown : wG.ownsRow w.heap.size 26 7 (.slice (some ⟨g, 0, none⟩) (E.length + 1) c3) (E.length + 1) (cellsL En.cs E ++ y.cs)) (hgrow : wq.grownBy wG (Value.slice a E.length cap).ownBlock)
    (hat : (Value.slice a E.length cap).ownBlock = some g ∨ wq.heap.size ≤ g)
    (hE : E.map En.p = L ++ (xs.take j).map (stamp per seq)) (hx : xs[j]? = some x) (hy : y.p = stamp per seq x) (hw : wrongE (L ++ (xs.take j).map (stamp per seq)) x = 0) (hk : ∀ i, i < j → ∀ x, xs[i]? = some x → wrongE (L ++ (xs.take i).map (stamp per seq)) x = 0) :
    PRel w p1 bm1 per seq L xs (j + 1) (wG.setCell ⟨p1, 0, none⟩ (.slice (some ⟨g, 0, none⟩) (E.length + 1) c3)) := by
  have kp : Blk wG p1 #[.slice a E.length cap, .map (some bm1)] 87 := h.kp.grown hgrow (h.kp.own_ne h.own (by decide))
  have mp : MapAt OkN wG bm1 (byM (E.map En.p ++ [y.p])) := h.mp.kept hgrow (own_map_ne h.own h.mp)
  have hT : Turn [p1] wG (wG.setCell ⟨p1, 0, none⟩ (.slice (some ⟨g, 0, none⟩) (E.length + 1) c3)) := Turn.of_grown (grown_setCell wG p1 0 _) (by simp)
  have hbox : ∀ q ∈ [p1], LBox wG q := fun q hq => by rw [List.mem_singleton.1 hq]; exact ⟨_, _, _, _, _, kp⟩
  obtain ⟨hj, hxe⟩ := List.getElem?_eq_some_iff.1 hx
  have hlen : (E ++ [y]).length = E.length + 1 := by simp
  have hokq : ∀ e ∈ E ++ [y], EnOk wq e := fun e he => by
    rcases List.mem_append.1 he with h1 | h1
    · exact h.ok e h1
    · rw [List.mem_singleton.1 h1]; exact h.oy
  have hokG : ∀ e ∈ E ++ [y], EnOk wG e := fun e he => ⟨fun hl => by
    obtain ⟨b, o, e1, hc⟩ := (hokq e he).ln hl
    have hne := h.far e he _ e1 hl
    exact ⟨b, o, e1, fun i hi => ⟨grown_cell hgrow (hc i hi).1 hne, grown_cell hgrow (hc i hi).2.1 hne, grown_cell hgrow (hc i hi).2.2 hne⟩⟩, (hokq e he).wf, (hokq e he).few, (hokq e he).nil⟩
  have hown2 : (wG.setCell ⟨p1, 0, none⟩ (.slice (some ⟨g, 0, none⟩) (E.length + 1) c3)).ownsRow w.heap.size 26 7 (.slice (some ⟨g, 0, none⟩) (E ++ [y]).length c3) (E ++ [y]).length (cellsL En.cs (E ++ [y])) := by
    rw [hlen, cellsL_snoc]
    exact hown.kept (grown_setCell wG p1 0 _) (Or.inr (kp.own_ne hown (by decide)))
  obtain ⟨a9, c9, e9, hsl, _⟩ := sl_own (enc := En.cs) En.cs_len hown2
  simp only [Value.slice.injEq, true_and] at e9
  obtain ⟨rfl, rfl⟩ := e9
  refine ⟨⟨some ⟨g, 0, none⟩, c3, E ++ [y], ⟨?_, hsl, fun e he => (hokG e he).turn hT hbox, ?_⟩, hown2, ?_, fun e he x0 e0 hl hg => ?_⟩, ?_, fun i hi z hz => ?_⟩
  · rw [hlen]; exact kp.set 0 _
  · rw [List.map_append]
    exact mp.turnL hT hbox
  · rw [List.map_append, hE, List.take_succ_eq_append_getElem hj, List.map_append, List.append_assoc, hxe]
    simp [hy]
  · simp only [Value.ownBlock, Option.some.injEq] at hg
    rcases hat with h1 | h1
    · exact h.far e he x0 e0 hl (by rw [h1, hg])
    · have := (hokq e he).ln.lt hl x0 e0
      omega
  · exact (h.be.grown hgrow h.be.size (fun q e => (own_cells h.own e).1)).trans (Turn.below hT (by have := h.be.size; have := hgrow.size; omega) (fun b hb => by rw [List.mem_singleton.1 hb]; exact h.hp))
  · rcases Nat.lt_or_ge i j with h1 | h1
    · exact hk i h1 z hz
    · obtain rfl : i = j := by omega
      rw [hx] at hz
      cases hz
      exact hw

end Go.Proofs.YtmjgcenhgpkhiaaDoor
namespace Go.Proofs.YtmjgcenhgpkhiaaDoor
open Go.RowKit Go.Sort Go.Shelf
set_option linter.unusedVariables false
set_option linter.unusedSimpArgs false

set_option maxHeartbeats 4000000 in
theorem post_none (p bm : Nat) (a : Option Addr) (cap : Nat) (E : List En) (b s : Nat) (size locked per seq : Int) (ea : Option Addr) (ecap : Nat) (X : List En) (w : World) (h : LgAt w p bm a cap E) (hP : Per w b s size locked) (h1 : 1 ≤ size) (h3 : per < 0 ∨ lastP size < per) (lk : Bool) :
    Calls Tryd.prog 37 #[.pointer (some ⟨p, 0, none⟩), .pointer (some ⟨b, 0, none⟩), .int .i64 per, .int .i64 seq, .slice ea X.length ecap] w (PostEnd w p E false lk per seq X) := by
  have HS := Lib.hid (pspan_bad b s size locked per w hP h1 h3)
  have HF : Hid (∀ w', Below w.heap.size w w' → PostEnd w p E false lk per seq X (.returned (.tuple #[.int .i64 0, .int .i64 10])) w') := fun w' hb => PostEnd.bad h hb rfl (by decide)
  clear h hP h3
  go_enter Tryd.func37, Tryd.ntmps37
  go_wp2_with fail
  with_reducible refine HS.out.mono ?_
  rintro e w1 ⟨rfl, hb1⟩
  go_wp2_with fail
  go_ret2
  exact HF.out _ hb1
set_option maxHeartbeats 4000000 in
theorem post_lock (p bm : Nat) (a : Option Addr) (cap : Nat) (E : List En) (b s : Nat) (size locked per seq : Int) (ea : Option Addr) (ecap : Nat) (X : List En) (w : World) (h : LgAt w p bm a cap E) (hP : Per w b s size locked) (h1 : 1 ≤ size) (h2 : size ≤ 400) (h3 : 0 ≤ per) (h4 : per ≤ lastP size) (h5 : per < locked) :
    Calls Tryd.prog 37 #[.pointer (some ⟨p, 0, none⟩), .pointer (some ⟨b, 0, none⟩), .int .i64 per, .int .i64 seq, .slice ea X.length ecap] w (PostEnd w p E true true per seq X) := by
  have HS := Lib.hid (pspan_ok b s size locked per w hP h1 h2 h3 h4)
  have HLk : Hid (∀ W, Below w.heap.size w W → Calls Tryd.prog 52 #[.pointer (some ⟨b, 0, none⟩), .int .i64 per] W fun e w' => e = .returned (.bool true) ∧ Below W.heap.size W w') := fun W hW => by
    have := plocked_ok b s size locked per W (hP.after hW) h1 h3 h4
    rwa [decide_eq_true h5] at this
  have HF : Hid (∀ w', Below w.heap.size w w' → PostEnd w p E true true per seq X (.returned (.tuple #[.int .i64 0, .int .i64 19])) w') := fun w' hb => PostEnd.bad h hb rfl (by decide)
  clear h hP h3 h4 h5
  go_enter Tryd.func37, Tryd.ntmps37
  go_wp2_with fail
  with_reducible refine HS.out.mono ?_
  rintro e w1 ⟨rfl, hb1⟩
  have HL1 := Lib.hid (HLk.out w1 hb1)
  go_wp2_with fail
  with_reducible refine HL1.out.mono ?_
  rintro e w2 ⟨rfl, hb2⟩
  go_wp2_with fail
  go_ret2
  exact HF.out _ (hb1.trans (hb2.mono hb1.size))
set_option maxHeartbeats 4000000 in
theorem post_seq (p bm : Nat) (a : Option Addr) (cap : Nat) (E : List En) (b s : Nat) (size locked per seq : Int) (ea : Option Addr) (ecap : Nat) (X : List En) (w : World) (h : LgAt w p bm a cap E) (hl : E.length ≤ 900000) (hP : Per w b s size locked) (h1 : 1 ≤ size) (h2 : size ≤ 400) (h3 : 0 ≤ per) (h4 : per ≤ lastP size) (h5 : ¬ per < locked) (h6 : seq < 0 ∨ seq < seqOf (E.map En.p)) :
    Calls Tryd.prog 37 #[.pointer (some ⟨p, 0, none⟩), .pointer (some ⟨b, 0, none⟩), .int .i64 per, .int .i64 seq, .slice ea X.length ecap] w (PostEnd w p E true false per seq X) := by
  have HS := Lib.hid (pspan_ok b s size locked per w hP h1 h2 h3 h4)
  have HLk : Hid (∀ W, Below w.heap.size w W → Calls Tryd.prog 52 #[.pointer (some ⟨b, 0, none⟩), .int .i64 per] W fun e w' => e = .returned (.bool false) ∧ Below W.heap.size W w') := fun W hW => by
    have := plocked_ok b s size locked per W (hP.after hW) h1 h3 h4
    rwa [decide_eq_false h5] at this
  have HSq : Hid (∀ W, Below w.heap.size w W → Calls Tryd.prog 53 #[.pointer (some ⟨p, 0, none⟩)] W fun e w' => e = .returned (.int .i64 (seqOf (E.map En.p))) ∧ Below W.heap.size W w') := fun W hW => lseq_ok p bm a cap E W (h.after hW) (by omega)
  have HF : Hid (∀ w', Below w.heap.size w w' → PostEnd w p E true false per seq X (.returned (.tuple #[.int .i64 0, .int .i64 24])) w') := fun w' hb => PostEnd.bad h hb (by unfold postE; rw [if_neg (by decide), if_neg (by decide), if_pos h6]) (by decide)
  obtain ⟨q, hq⟩ : ∃ q, seqOf (E.map En.p) = q := ⟨_, rfl⟩
  rw [hq] at HSq h6
  clear h hP h3 h4 h5 hq
  by_cases h7 : seq < 0
  · have d1 : decide (seq < 0) = true := decide_eq_true h7
    clear h6 h7
    go_enter Tryd.func37, Tryd.ntmps37
    go_wp2_with fail
    with_reducible refine HS.out.mono ?_
    rintro e w1 ⟨rfl, hb1⟩
    have HL1 := Lib.hid (HLk.out w1 hb1)
    go_wp2_with fail
    with_reducible refine HL1.out.mono ?_
    rintro e w2 ⟨rfl, hb2⟩
    go_wp2_with fail
    go_ret2
    exact HF.out _ (hb1.trans (hb2.mono hb1.size))
  · have d1 : decide (seq < 0) = false := decide_eq_false h7
    have d2 : decide (seq < q) = true := decide_eq_true (by omega)
    clear h6 h7
    go_enter Tryd.func37, Tryd.ntmps37
    go_wp2_with fail
    with_reducible refine HS.out.mono ?_
    rintro e w1 ⟨rfl, hb1⟩
    have HL1 := Lib.hid (HLk.out w1 hb1)
    go_wp2_with fail
    with_reducible refine HL1.out.mono ?_
    rintro e w2 ⟨rfl, hb2⟩
    have hB2 := hb1.trans (hb2.mono hb1.size)
    have HS2 := Lib.hid (HSq.out w2 hB2)
    go_wp2_with fail
    with_reducible refine HS2.out.mono ?_
    rintro e w3 ⟨rfl, hb3⟩
    go_wp2_with fail
    go_ret2
    exact HF.out _ (hB2.trans (hb3.mono hB2.size))

set_option maxHeartbeats 16000000 in
set_option maxRecDepth 100000 in
theorem post_main (p bm : Nat) (a : Option Addr) (cap : Nat) (E : List En) (b s : Nat) (size locked per seq : Int) (ea : Option Addr) (ecap : Nat) (X : List En) (w : World) (hR : RulesAt w) (h : LgAt w p bm a cap E) (hw : WL (E.map En.p)) (hl : E.length ≤ 900000) (hP : Per w b s size locked) (h1 : 1 ≤ size) (h2 : size ≤ 400) (h3 : 0 ≤ per) (h4 : per ≤ lastP size) (h5 : ¬ per < locked) (h6 : 0 ≤ seq) (h7 : seqOf (E.map En.p) ≤ seq)
    (hx : EnsAt w ea X) (hxl : X.length ≤ 1000) (hxw : ∀ x ∈ X, (Lit.int .i64 x.s.ref).wf = true) :
    Calls Tryd.prog 37 #[.pointer (some ⟨p, 0, none⟩), .pointer (some ⟨b, 0, none⟩), .int .i64 per, .int .i64 seq, .slice ea X.length ecap] w (PostEnd w p E true false per seq X) := by
  obtain ⟨v0, hv, hv0, hv1, hv2⟩ := info_parts infoEnt
  have hmx : Tryd.prog.follows .mixedOrders = true := by kernel_rfl
  have HS := Lib.hid (pspan_ok b s size locked per w hP h1 h2 h3 h4)
  have HLk : Hid (∀ W, Below w.heap.size w W → Calls Tryd.prog 52 #[.pointer (some ⟨b, 0, none⟩), .int .i64 per] W fun e w' => e = .returned (.bool false) ∧ Below W.heap.size W w') := fun W hW => by
    have := plocked_ok b s size locked per W (hP.after hW) h1 h3 h4
    rwa [decide_eq_false h5] at this
  have HSq : Hid (∀ W, Below w.heap.size w W → Calls Tryd.prog 53 #[.pointer (some ⟨p, 0, none⟩)] W fun e w' => e = .returned (.int .i64 (seqOf (E.map En.p))) ∧ Below W.heap.size W w') := fun W hW => lseq_ok p bm a cap E W (h.after hW) (by omega)
  have HCp : Hid (∀ W, Below w.heap.size w W → Calls Tryd.prog 43 #[.pointer (some ⟨p, 0, none⟩)] W (CopyEnd W E)) := fun W hW => lcopy_ok p bm a cap E W (h.after hW) (by omega)
  have HLn : Hid (∀ W, Below w.heap.size w W → Calls Tryd.prog 18 #[.pointer (some ⟨p, 0, none⟩)] W fun e w' => e = .returned (.int .i64 (E.length : Int)) ∧ w' = W) := fun W hW => llen_ok p bm a cap E W (h.after hW)
  have HL := Lib.hid h
  have HW := Lib.hid hw
  have HX := Lib.hid hx
  have HXw := Lib.hid hxw
  have HRu := Lib.hid hR
  have HP0 := Lib.hid h3
  have HS0 := Lib.hid h6
  have HS7 := Lib.hid h7
  have HPE : Hid (postE true false per seq (E.map En.p) (X.map En.p) = (postK per seq (E.map En.p) (X.map En.p)).1) := by
    show _ = _
    unfold postE
    rw [if_neg (by decide), if_neg (by decide), if_neg (by omega)]
  have d1 : decide (seq < 0) = false := decide_eq_false (by omega)
  obtain ⟨q, hq⟩ : ∃ q, seqOf (E.map En.p) = q := ⟨_, rfl⟩
  rw [hq] at HSq h7
  have d2 : decide (seq < q) = false := decide_eq_false (by omega)
  clear h hP h3 h4 h5 h6 h7 hw hx hxw hR hq
  go_enter Tryd.func37, Tryd.ntmps37
  go_wp2_with fail
  with_reducible refine HS.out.mono ?_
  rintro e w1 ⟨rfl, hb1⟩
  have HL1 := Lib.hid (HLk.out w1 hb1)
  go_wp2_with fail
  with_reducible refine HL1.out.mono ?_
  rintro e w2 ⟨rfl, hb2⟩
  have hB2 := hb1.trans (hb2.mono hb1.size)
  have HS2 := Lib.hid (HSq.out w2 hB2)
  go_wp2_with fail
  with_reducible refine HS2.out.mono ?_
  rintro e w3 ⟨rfl, hb3⟩
  have hB3 := hB2.trans (hb3.mono hB2.size)
  have HC3 := Lib.hid (HCp.out w3 hB3)
  have HB3 := Lib.hid hB3
  clear hb1 hb2 hb3 hB2 hB3 HL1 HS2 HLk HSq HCp HS
  go_wp2_with fail
  with_reducible refine HC3.out.mono ?_
  rintro e w4 ⟨p1, bm1, a4, c4, rfl, hL4, ho4, hb4, hp1, hbm1⟩
  have z3 := HB3.out.size
  have hB4 := HB3.out.trans (hb4.mono z3)
  have HR4 : Hid (PRel w p1 bm1 per seq (E.map En.p) (X.map En.p) 0 w4) := ⟨⟨a4, c4, E, hL4, own_low ho4 z3, by simp, fun e he x0 e0 hln hg => by
    have h1 := (HL.out.ok e he).ln.lt hln x0 e0
    have h2 := (own_cells ho4 hg).1
    omega⟩, hB4, fun i hi => absurd hi (by omega)⟩
  have hp1w : w.heap.size ≤ p1 := by omega
  have hbmw : w.heap.size ≤ bm1 := by omega
  clear hL4 ho4 hb4 hB4 HC3
  go_wp2_with fail
  go_loopw [53] (fun i wr => ∃ j : Nat, j ≤ X.length ∧ i = .int .i64 (j : Int) ∧ Hid (PRel w p1 bm1 per seq (E.map En.p) (X.map En.p) j wr)) (fun i _ => X.length - (intOf i).toNat)
  case atStart => exact ⟨0, by omega, rfl, HR4⟩
  case round =>
    obtain ⟨j, hj, rfl, HQ⟩ := hrel
    by_cases hlt : j < X.length
    · have HLt := Lib.hid hlt
      obtain ⟨x, hy⟩ : ∃ x, X[j]'hlt = x := ⟨_, rfl⟩
      have hx : X[j]? = some x := by rw [← hy]; exact List.getElem?_eq_getElem hlt
      have HXj : Hid ((X.map En.p)[j]? = some x.p) := by show _ = _; rw [List.getElem?_map, hx]; rfl
      have hxr := HXw.out x (by rw [← hy]; exact List.getElem_mem _)
      have hxat := HX.out.after HQ.out.be
      have hXr : RecsAt wr ea 7 En.cs X := hxat.1
      have hXo : EnOk wr x := by
        have := hxat.2 j hlt
        rwa [show En.at X j = x by unfold En.at; rw [List.getD_eq_getElem?_getD, hx]; rfl] at this
      obtain ⟨a1, c1, E1, hL1, ho1, hE1, hf1⟩ := HQ.out.ex
      have HE1 := Lib.hid hE1
      have HOk := Lib.hid HQ.out.ok
      have hE1l : E1.length ≤ 901000 := by
        have := congrArg List.length hE1
        simp only [List.length_map, List.length_append, List.length_take] at this
        omega
      have hWL1 : WL (E1.map En.p) := by
        rw [hE1]
        exact HW.out.puts HP0.out HS0.out HS7.out ((X.map En.p).take j) (fun i z hz => by
          have hi : i < j := by have := (List.getElem?_eq_some_iff.1 hz).1; rw [List.length_take] at this; omega
          rw [List.getElem?_take_of_lt hi] at hz
          rw [List.take_take, Nat.min_eq_left (by omega)]
          exact HOk.out i hi z hz)
      obtain ⟨b0, o0, rfl, _⟩ := hXr (by omega)
      obtain ⟨⟨con, day, cur, sq, pr, ref⟩, la, lc, ls⟩ := x
      have q0 : wr.cell? ⟨b0, o0 + j * 7, none⟩ = some (.int .i64 con) := RecsAt.cell hXr rfl hlt hx (j := 0) rfl
      have q1 : wr.cell? ⟨b0, o0 + j * 7 + 1, none⟩ = some (.int .i64 day) := RecsAt.cell hXr rfl hlt hx (j := 1) rfl
      have q2 : wr.cell? ⟨b0, o0 + j * 7 + 2, none⟩ = some (.int .i64 cur) := RecsAt.cell hXr rfl hlt hx (j := 2) rfl
      have q3 : wr.cell? ⟨b0, o0 + j * 7 + 3, none⟩ = some (.int .i64 sq) := RecsAt.cell hXr rfl hlt hx (j := 3) rfl
      have q4 : wr.cell? ⟨b0, o0 + j * 7 + 4, none⟩ = some (.int .i64 pr) := RecsAt.cell hXr rfl hlt hx (j := 4) rfl
      have q5 : wr.cell? ⟨b0, o0 + j * 7 + 5, none⟩ = some (.int .i64 ref) := RecsAt.cell hXr rfl hlt hx (j := 5) rfl
      have q6 : wr.cell? ⟨b0, o0 + j * 7 + 6, none⟩ = some (.slice la ls.length lc) := RecsAt.cell hXr rfl hlt hx (j := 6) rfl
      obtain ⟨w5, hw5⟩ : ∃ W, wr.alloc (.cells #[.int .i64 con, .int .i64 day, .int .i64 cur, .int .i64 sq, .int .i64 pr, .int .i64 ref, .slice la ls.length lc] 26) = W := ⟨_, rfl⟩
      have hb5 : Below wr.heap.size wr w5 := by rw [← hw5]; exact (Below.refl _ _).alloc (Nat.le_refl _) _
      have K5 : Blk w5 wr.heap.size #[.int .i64 con, .int .i64 day, .int .i64 cur, .int .i64 sq, .int .i64 pr, .int .i64 ref, .slice la ls.length lc] 26 := by rw [← hw5]; exact Blk.new _ _ _
      have z5 : w5.heap.size = wr.heap.size + 1 := by rw [← hw5]; simp
      have zr := HQ.out.be.size
      have hck := lcheck_ok p1 bm1 a1 c1 E1 ⟨⟨con, day, cur, sq, pr, ref⟩, la, lc, ls⟩ w5 (HRu.out.after (HQ.out.be.trans (hb5.mono zr))) (hL1.after hb5) (by omega) hWL1 (hXo.after hb5) hxr
      unfold entV at hck
      rw [hE1] at hck
      have HCk := Lib.hid hck
      have HLr := Lib.hid hL1
      have HBr := Lib.hid HQ.out.be
      have HOr := Lib.hid ho1
      have HXr := Lib.hid hXo
      have HX5 := Lib.hid (hXo.after hb5)
      have HRef : Hid ((Lit.int .i64 ref).wf = true) := hxr
      have HB5r := Lib.hid hb5
      have HNm : Hid (ref ≠ -1 → wrongE (E.map En.p ++ ((X.map En.p).take j).map (stamp per seq)) ⟨⟨con, day, cur, sq, pr, ref⟩, ls⟩ = 0 → ∀ v, (Value.int .i64 ref, v) ∉ byM (E1.map En.p)) := fun hr h0 v hv => by
        rw [← hE1] at h0
        obtain ⟨_, _, h2, _⟩ := wrongE_ref h0 hr
        obtain ⟨i, e, g1, g2, g3, _⟩ := byM_mem.1 hv
        simp only [Value.int.injEq, true_and] at g3
        exact revI_none h2 e (List.mem_of_getElem? g1) ⟨g3.symm, by rw [show (⟨⟨con, day, cur, sq, pr, ref⟩, ls⟩ : EnP).s.ref = ref from rfl, g3]; exact (hWL1.refs g1 g2).1⟩
      have HK5 := Lib.hid K5
      have HF1 := Lib.hid hf1
      have HW5 := Lib.hid hw5
      have HB5 := Lib.hid (HQ.out.be.trans (hb5.mono zr))
      have HNw : Hid ((Value.slice a1 E1.length c1).ownBlock ≠ some wr.heap.size) := fun e => by have := (own_cells ho1 e).2.1; omega
      have i1 : (0 : Int) ≤ (j : Int) := by omega
      have i2 : (j : Int) < (X.length : Int) := by omega
      clear hy hx hxr hxat hXr hXo hL1 ho1 hE1 hf1 hWL1 hw5 hb5 K5 hck hlt HQ
      go_wp2_with fail
      rw [HW5.out]
      with_reducible refine HCk.out.mono ?_
      rintro e w6 ⟨rfl, hb6⟩
      have hB6 := HB5.out.trans (hb6.mono HB5.out.size)
      dsimp only [En.p]
      by_cases hwr : wrongE (E.map En.p ++ ((X.map En.p).take j).map (stamp per seq)) ⟨⟨con, day, cur, sq, pr, ref⟩, ls⟩ = 0
      · rw [hwr]
        have HWr := Lib.hid hwr
        have HCl := Lib.hid (clone_ok la lc ls w6 (HX5.out.ln.after hb6) (Nat.le_trans HX5.out.few (by omega)) (fun e => ⟨(HX5.out.nil e).1, (HX5.out.nil e).2⟩))
        have hk6 := HK5.out.after hb6
        have k6 : w6.cell? ⟨wr.heap.size, 6, none⟩ = some (.slice la ls.length lc) := hk6.cell 6 rfl
        have HK6 := Lib.hid hk6
        have HB6r := Lib.hid (HB5r.out.trans (hb6.mono HB5r.out.size))
        have z6 := hb6.size
        clear hwr hk6 hb6 hB6 HCk HK5 HW5 HX5
        go_wp2_with fail
        with_reducible refine HCl.out.mono ?_
        rintro e w7 ⟨v7, rfl, hown7, hb7⟩
        obtain ⟨c, cc, rfl, g0, hln, hcb⟩ := owned_lines hown7 rfl
        have hk7 := HK6.out.after hb7
        have k0 : w7.cell? ⟨wr.heap.size, 0, none⟩ = some (.int .i64 con) := hk7.cell 0 rfl
        have k1 : w7.cell? ⟨wr.heap.size, 1, none⟩ = some (.int .i64 day) := hk7.cell 1 rfl
        have k2 : w7.cell? ⟨wr.heap.size, 2, none⟩ = some (.int .i64 cur) := hk7.cell 2 rfl
        have k3 : w7.cell? ⟨wr.heap.size, 3, none⟩ = some (.int .i64 sq) := hk7.cell 3 rfl
        have k4 : w7.cell? ⟨wr.heap.size, 4, none⟩ = some (.int .i64 pr) := hk7.cell 4 rfl
        have k5 : w7.cell? ⟨wr.heap.size, 5, none⟩ = some (.int .i64 ref) := hk7.cell 5 rfl
        have k6 : w7.cell? ⟨wr.heap.size, 6, none⟩ = some (.slice la ls.length lc) := hk7.cell 6 rfl
        have kf3 := hk7.free 3
        have kf4 := hk7.free 4
        have kf6 := hk7.free 6
        obtain ⟨w8, hw8⟩ : ∃ W, ((w7.setCell ⟨wr.heap.size, 4, none⟩ (.int .i64 per)).setCell ⟨wr.heap.size, 3, none⟩ (.int .i64 seq)).setCell ⟨wr.heap.size, 6, none⟩ (.slice c ls.length cc) = W := ⟨_, rfl⟩
        have K8 : Blk w8 wr.heap.size #[.int .i64 con, .int .i64 day, .int .i64 cur, .int .i64 seq, .int .i64 per, .int .i64 ref, .slice c ls.length cc] 26 := by
          have := ((hk7.set 4 (.int .i64 per)).set 3 (.int .i64 seq)).set 6 (.slice c ls.length cc)
          rw [hw8] at this
          simpa using this
        have hb8 : Below wr.heap.size wr w8 := by
          rw [← hw8]
          exact (((HB6r.out.trans (hb7.mono HB6r.out.size)).setCell (p := ⟨wr.heap.size, 4, none⟩) (Nat.le_refl _) _).setCell (p := ⟨wr.heap.size, 3, none⟩) (Nat.le_refl _) _).setCell (p := ⟨wr.heap.size, 6, none⟩) (Nat.le_refl _) _
        have hcw : ∀ x0, c = some x0 → wr.heap.size < x0.block := fun x0 e0 => by have := (hcb x0 e0).1; omega
        have hln8 : LnAt w8 c ls := by
          rw [← hw8]
          refine ((hln.grown (grown_setCell _ wr.heap.size 4 _) ?_).grown (grown_setCell _ wr.heap.size 3 _) ?_).grown (grown_setCell _ wr.heap.size 6 _) ?_ <;> exact fun x0 e0 q => by have := hcw x0 e0; have q' := Option.some.inj q; omega
        have HM8 : Hid (PMid0 w p1 bm1 a1 c1 E1 wr.heap.size ⟨⟨con, day, cur, seq, per, ref⟩, c, cc, ls⟩ w8) := by
          refine ⟨(HLr.out.after hb8).blk, own_after HOr.out hb8, K8, (HLr.out.after hb8).ok, ⟨hln8, HXr.out.wf, HXr.out.few, g0⟩, ?_, hp1w, fun e he x0 e0 hl0 hg => ?_⟩
          · exact HBr.out.trans (hb8.mono zr)
          · rcases List.mem_append.1 he with h1 | h1
            · exact HF1.out e h1 x0 e0 hl0 hg
            · rw [List.mem_singleton.1 h1] at e0
              have h2 := (own_cells HOr.out hg).2.1
              have := hcw x0 e0
              omega
        have hL8 := HLr.out.after hb8
        have HL8 := Lib.hid hL8
        have c0 : w8.cell? ⟨p1, 0, none⟩ = some (.slice a1 E1.length c1) := hL8.blk.cell 0 rfl
        have c1' : w8.cell? ⟨p1, 1, none⟩ = some (.map (some bm1)) := hL8.blk.cell 1 rfl
        have x5 : w8.cell? ⟨wr.heap.size, 5, none⟩ = some (.int .i64 ref) := K8.cell 5 rfl
        have HW8 := Lib.hid hw8
        clear hw8 hk7 hb7 hown7 hln hcb g0 hb8 hcw hln8 hL8 HK6 HCl HB6r HLr HOr HXr HF1 K8
        by_cases hrf : ref = -1
        · subst hrf
          have HMd : Hid (PMid w p1 bm1 a1 c1 E1 wr.heap.size ⟨⟨con, day, cur, seq, per, -1⟩, c, cc, ls⟩ w8) := HM8.out.mid (by rw [byM_snoc]; show MapAt OkN w8 bm1 (_ ++ if (-1 : Int) = -1 then _ else _); rw [if_pos rfl, List.append_nil]; exact HL8.out.map)
          clear HM8 HL8 HNm c0 c1' x5
          go_wp2_with fail
          rw [HW8.out]
          clear HW8 k0 k1 k2 k3 k4 k5 k6 kf3 kf4 kf6
          have zq0 := HMd.out.be.size
          have hkp := fun W (hW : Below w8.heap.size w8 W) => (HMd.out.after hW).kp.cell 0 rfl
          have hkb := fun W (hW : Below w8.heap.size w8 W) => (HMd.out.after hW).kb
          have HC : Hid (∀ W, Below w8.heap.size w8 W → W.cell? ⟨p1, 0, none⟩ = some (.slice a1 E1.length c1) ∧ W.cell? ⟨wr.heap.size, 0, none⟩ = some (.int .i64 con) ∧ W.cell? ⟨wr.heap.size, 1, none⟩ = some (.int .i64 day) ∧ W.cell? ⟨wr.heap.size, 2, none⟩ = some (.int .i64 cur) ∧ W.cell? ⟨wr.heap.size, 3, none⟩ = some (.int .i64 seq) ∧ W.cell? ⟨wr.heap.size, 4, none⟩ = some (.int .i64 per) ∧ W.cell? ⟨wr.heap.size, 5, none⟩ = some (.int .i64 (-1)) ∧ W.cell? ⟨wr.heap.size, 6, none⟩ = some (.slice c ls.length cc)) := fun W hW => ⟨hkp W hW, (hkb W hW).cell 0 rfl, (hkb W hW).cell 1 rfl, (hkb W hW).cell 2 rfl, (hkb W hW).cell 3 rfl, (hkb W hW).cell 4 rfl, (hkb W hW).cell 5 rfl, (hkb W hW).cell 6 rfl⟩
          clear hkp hkb
          refine wp_region_final (fun W => W.cell? ⟨p1, 0, none⟩ = some (.slice a1 E1.length c1) ∧ W.cell? ⟨wr.heap.size, 0, none⟩ = some (.int .i64 con) ∧ W.cell? ⟨wr.heap.size, 1, none⟩ = some (.int .i64 day) ∧ W.cell? ⟨wr.heap.size, 2, none⟩ = some (.int .i64 cur) ∧ W.cell? ⟨wr.heap.size, 3, none⟩ = some (.int .i64 seq) ∧ W.cell? ⟨wr.heap.size, 4, none⟩ = some (.int .i64 per) ∧ W.cell? ⟨wr.heap.size, 5, none⟩ = some (.int .i64 (-1)) ∧ W.cell? ⟨wr.heap.size, 6, none⟩ = some (.slice c ls.length cc)) 10 (by kernel_rfl) ?_
          have bd : Below w8.heap.size w8 w8.drew := (Below.refl _ _).drew
          have hSd := HC.out _ bd
          obtain ⟨wq, hwq⟩ : ∃ W, w8.drew = W := ⟨_, rfl⟩
          rw [hwq] at bd hSd ⊢
          clear hwq
          refine fT_take (i := 0) (v := ?_) rfl (by kernel_rfl) (fun _ _ _ h => h) (by rfl) hSd ?_ ?_
          rotate_left 1
          · intro wS hSw
            obtain ⟨s0, s1, s2, s3, s4, s5, s6, s7⟩ := hSw
            go_simp
            try with_reducible rfl
          try simp only [Act.put, List.setIfInBounds_toArray, List.set_cons_zero, List.set_cons_succ]
          refine fT_take (i := 1) (v := ?_) rfl (by kernel_rfl) (fun _ _ _ h => h) (by rfl) hSd ?_ ?_
          rotate_left 1
          · intro wS hSw
            obtain ⟨s0, s1, s2, s3, s4, s5, s6, s7⟩ := hSw
            go_simp
            try with_reducible rfl
          try simp only [Act.put, List.setIfInBounds_toArray, List.set_cons_zero, List.set_cons_succ]
          refine fT_take (i := 2) (v := ?_) rfl (by kernel_rfl) (fun _ _ _ h => h) (by rfl) hSd ?_ ?_
          rotate_left 1
          · intro wS hSw
            obtain ⟨s0, s1, s2, s3, s4, s5, s6, s7⟩ := hSw
            go_simp
            try with_reducible rfl
          try simp only [Act.put, List.setIfInBounds_toArray, List.set_cons_zero, List.set_cons_succ]
          refine fT_take (i := 3) (v := ?_) rfl (by kernel_rfl) (fun _ _ _ h => h) (by rfl) hSd ?_ ?_
          rotate_left 1
          · intro wS hSw
            obtain ⟨s0, s1, s2, s3, s4, s5, s6, s7⟩ := hSw
            go_simp
            try with_reducible rfl
          try simp only [Act.put, List.setIfInBounds_toArray, List.set_cons_zero, List.set_cons_succ]
          refine fT_take (i := 4) (v := ?_) rfl (by kernel_rfl) (fun _ _ _ h => h) (by rfl) hSd ?_ ?_
          rotate_left 1
          · intro wS hSw
            obtain ⟨s0, s1, s2, s3, s4, s5, s6, s7⟩ := hSw
            go_simp
            try with_reducible rfl
          try simp only [Act.put, List.setIfInBounds_toArray, List.set_cons_zero, List.set_cons_succ]
          refine fT_take (i := 5) (v := ?_) rfl (by kernel_rfl) (fun _ _ _ h => h) (by rfl) hSd ?_ ?_
          rotate_left 1
          · intro wS hSw
            obtain ⟨s0, s1, s2, s3, s4, s5, s6, s7⟩ := hSw
            go_simp
            try with_reducible rfl
          try simp only [Act.put, List.setIfInBounds_toArray, List.set_cons_zero, List.set_cons_succ]
          have bA : Below w8.heap.size w8 (wq.alloc (.cells #[.int .i64 con, .int .i64 day, .int .i64 cur, .int .i64 seq, .int .i64 per, .int .i64 (-1), .slice c ls.length cc] 26)) := bd.trans ((Below.refl _ _).alloc bd.size _)
          refine wpAnyF_next (i := 6) rfl (by kernel_rfl) (fun K hK => ?_)
          go_simp
          refine hK.out _ _ (.inr (HC.out _ bA)) ?_
          clear hK K
          try simp only [Act.put, List.setIfInBounds_toArray, List.set_cons_zero, List.set_cons_succ]
          refine wpAnyF_next (i := 7) rfl (by kernel_rfl) (fun K hK => ?_)
          have hMA := HMd.out.after bA
          refine step_append_lies _ (by rfl) _ _ _ (by rfl) w.heap.size 26 v0 _ 7 72 Tryd.underlying31 hv hv0 hv1 hv2 rfl (by omega) _ E1.length _ (by rfl) hMA.own ⟨wq.heap.size, 0, none⟩ 1 1 [.int .i64 con, .int .i64 day, .int .i64 cur, .int .i64 seq, .int .i64 per, .int .i64 (-1), .slice c ls.length cc] (by rfl) (by rfl) (World.news_of_block (cs := #[.int .i64 con, .int .i64 day, .int .i64 cur, .int .i64 seq, .int .i64 per, .int .i64 (-1), .slice c ls.length cc]) (t := 26) (fr := (0, 0)) (heap_alloc_new wq _)) (by simp [Value.oneCell']) (by omega) (by unfold maxLen; omega) (by omega) (by have := bA.size; omega) _ rfl ?_
          intro g c3 wG hown hgrow hat hgt
          have kG : Blk wG p1 #[.slice a1 E1.length c1, .map (some bm1)] 87 := hMA.kp.grown hgrow (hMA.kp.own_ne hMA.own (by decide))
          have hbne : (Value.slice a1 E1.length c1).ownBlock ≠ some wr.heap.size := fun e => HNw.out e
          have kX : Blk wG wr.heap.size #[.int .i64 con, .int .i64 day, .int .i64 cur, .int .i64 seq, .int .i64 per, .int .i64 (-1), .slice c ls.length cc] 26 := hMA.kb.grown hgrow hbne
          have m0 : wG.cell? ⟨p1, 0, none⟩ = some (.slice a1 E1.length c1) := kG.cell 0 rfl
          have mf := kG.free 0
          have hSG : (fun W => W.cell? ⟨p1, 0, none⟩ = some (.slice a1 E1.length c1) ∧ W.cell? ⟨wr.heap.size, 0, none⟩ = some (.int .i64 con) ∧ W.cell? ⟨wr.heap.size, 1, none⟩ = some (.int .i64 day) ∧ W.cell? ⟨wr.heap.size, 2, none⟩ = some (.int .i64 cur) ∧ W.cell? ⟨wr.heap.size, 3, none⟩ = some (.int .i64 seq) ∧ W.cell? ⟨wr.heap.size, 4, none⟩ = some (.int .i64 per) ∧ W.cell? ⟨wr.heap.size, 5, none⟩ = some (.int .i64 (-1)) ∧ W.cell? ⟨wr.heap.size, 6, none⟩ = some (.slice c ls.length cc)) wG := ⟨m0, kX.cell 0 rfl, kX.cell 1 rfl, kX.cell 2 rfl, kX.cell 3 rfl, kX.cell 4 rfl, kX.cell 5 rfl, kX.cell 6 rfl⟩
          dsimp only at hSG
          have HFin : Hid (PRel w p1 bm1 per seq (E.map En.p) (X.map En.p) (j + 1) (wG.setCell ⟨p1, 0, none⟩ (.slice (some ⟨g, 0, none⟩) (E1.length + 1) c3))) := hMA.put hown hgrow (hat.imp id fun e => by rw [e]; exact Nat.le_of_eq (by simp)) HE1.out HXj.out rfl HWr.out HOk.out
          refine hK.out _ _ (.inr hSG) ?_
          clear hK K hown hat hgt kX kG hMA hgrow
          try simp only [Act.put, List.setIfInBounds_toArray, List.set_cons_zero, List.set_cons_succ]
          refine wpAnyF_next (i := 8) rfl (by kernel_rfl) (fun K hK => ?_)
          go_simp
          refine hK.out _ _ (.inr hSG) ?_
          clear hK K
          try simp only [Act.put, List.setIfInBounds_toArray, List.set_cons_zero, List.set_cons_succ]
          refine wpAnyF_next (i := 9) rfl (by kernel_rfl) (fun K hK => ?_)
          go_simp
          refine hK.out _ _ (.inr hSG) ?_
          clear hK K
          try simp only [Act.put, List.setIfInBounds_toArray, List.set_cons_zero, List.set_cons_succ]
          refine wpAnyF_next (i := 10) rfl (by kernel_rfl) (fun K hK => ?_)
          go_simp
          refine hK.out _ _ (.inl rfl) ?_
          clear hK K
          try simp only [Act.put, List.setIfInBounds_toArray, List.set_cons_zero, List.set_cons_succ]
          refine wpAnyF_done (by kernel_rfl) ?_ _
          clear hSG hSd HC bA bd m0 mf
          have hlt := HLt.out
          go_wp2_with fail
          go_roundw
          case rel => exact ⟨j + 1, by omega, by go_num, HFin⟩
          case measure => simp [intOf]; omega
        · have d5 : (ref == -1) = false := by rw [beq_eq_false_iff_ne]; exact hrf
          have HNv := Lib.hid (HNm.out hrf HWr.out)
          have HRn := Lib.hid hrf
          clear HNm hrf
          go_wp2_with fail
          rw [HW8.out]
          clear HW8 k0 k1 k2 k3 k4 k5 k6 kf3 kf4 kf6
          have bd8 : Below w8.heap.size w8 w8.drew := (Below.refl _ _).drew
          go_still_tail 11, hmx
          refine wpList_store _ rfl _ _ _ 85 rfl keyN Tryd.underlying85 rfl (HL8.out.after bd8).map (.int .i64 ref) (.int .i64 (E1.length : Int)) rfl rfl ⟨_, rfl, HRef.out⟩ ?_
          intro w9 hm9 hg9 hs9
          have HMd : Hid (PMid w p1 bm1 a1 c1 E1 wr.heap.size ⟨⟨con, day, cur, seq, per, ref⟩, c, cc, ls⟩ w9) := ((HM8.out.after bd8).mapped (HL8.out.after bd8).map hg9 hbmw).mid (by
            rw [byM_snoc]
            show MapAt OkN w9 bm1 (_ ++ if ref = -1 then _ else _)
            rw [if_neg HRn.out]
            refine hm9.congr ?_
            rw [lessKey_none HNv.out, List.length_map]
            exact (List.perm_append_singleton _ _).symm)
          clear HM8 HL8 hm9 hg9 hs9 bd8 c0 c1' x5 d5
          go_wp2_with fail
          have zq0 := HMd.out.be.size
          have hkp := fun W (hW : Below w9.heap.size w9 W) => (HMd.out.after hW).kp.cell 0 rfl
          have hkb := fun W (hW : Below w9.heap.size w9 W) => (HMd.out.after hW).kb
          have HC : Hid (∀ W, Below w9.heap.size w9 W → W.cell? ⟨p1, 0, none⟩ = some (.slice a1 E1.length c1) ∧ W.cell? ⟨wr.heap.size, 0, none⟩ = some (.int .i64 con) ∧ W.cell? ⟨wr.heap.size, 1, none⟩ = some (.int .i64 day) ∧ W.cell? ⟨wr.heap.size, 2, none⟩ = some (.int .i64 cur) ∧ W.cell? ⟨wr.heap.size, 3, none⟩ = some (.int .i64 seq) ∧ W.cell? ⟨wr.heap.size, 4, none⟩ = some (.int .i64 per) ∧ W.cell? ⟨wr.heap.size, 5, none⟩ = some (.int .i64 (ref)) ∧ W.cell? ⟨wr.heap.size, 6, none⟩ = some (.slice c ls.length cc)) := fun W hW => ⟨hkp W hW, (hkb W hW).cell 0 rfl, (hkb W hW).cell 1 rfl, (hkb W hW).cell 2 rfl, (hkb W hW).cell 3 rfl, (hkb W hW).cell 4 rfl, (hkb W hW).cell 5 rfl, (hkb W hW).cell 6 rfl⟩
          clear hkp hkb
          refine wp_region_final (fun W => W.cell? ⟨p1, 0, none⟩ = some (.slice a1 E1.length c1) ∧ W.cell? ⟨wr.heap.size, 0, none⟩ = some (.int .i64 con) ∧ W.cell? ⟨wr.heap.size, 1, none⟩ = some (.int .i64 day) ∧ W.cell? ⟨wr.heap.size, 2, none⟩ = some (.int .i64 cur) ∧ W.cell? ⟨wr.heap.size, 3, none⟩ = some (.int .i64 seq) ∧ W.cell? ⟨wr.heap.size, 4, none⟩ = some (.int .i64 per) ∧ W.cell? ⟨wr.heap.size, 5, none⟩ = some (.int .i64 (ref)) ∧ W.cell? ⟨wr.heap.size, 6, none⟩ = some (.slice c ls.length cc)) 10 (by kernel_rfl) ?_
          have bd : Below w9.heap.size w9 w9.drew := (Below.refl _ _).drew
          have hSd := HC.out _ bd
          obtain ⟨wq, hwq⟩ : ∃ W, w9.drew = W := ⟨_, rfl⟩
          rw [hwq] at bd hSd ⊢
          clear hwq
          refine fT_take (i := 0) (v := ?_) rfl (by kernel_rfl) (fun _ _ _ h => h) (by rfl) hSd ?_ ?_
          rotate_left 1
          · intro wS hSw
            obtain ⟨s0, s1, s2, s3, s4, s5, s6, s7⟩ := hSw
            go_simp
            try with_reducible rfl
          try simp only [Act.put, List.setIfInBounds_toArray, List.set_cons_zero, List.set_cons_succ]
          refine fT_take (i := 1) (v := ?_) rfl (by kernel_rfl) (fun _ _ _ h => h) (by rfl) hSd ?_ ?_
          rotate_left 1
          · intro wS hSw
            obtain ⟨s0, s1, s2, s3, s4, s5, s6, s7⟩ := hSw
            go_simp
            try with_reducible rfl
          try simp only [Act.put, List.setIfInBounds_toArray, List.set_cons_zero, List.set_cons_succ]
          refine fT_take (i := 2) (v := ?_) rfl (by kernel_rfl) (fun _ _ _ h => h) (by rfl) hSd ?_ ?_
          rotate_left 1
          · intro wS hSw
            obtain ⟨s0, s1, s2, s3, s4, s5, s6, s7⟩ := hSw
            go_simp
            try with_reducible rfl
          try simp only [Act.put, List.setIfInBounds_toArray, List.set_cons_zero, List.set_cons_succ]
          refine fT_take (i := 3) (v := ?_) rfl (by kernel_rfl) (fun _ _ _ h => h) (by rfl) hSd ?_ ?_
          rotate_left 1
          · intro wS hSw
            obtain ⟨s0, s1, s2, s3, s4, s5, s6, s7⟩ := hSw
            go_simp
            try with_reducible rfl
          try simp only [Act.put, List.setIfInBounds_toArray, List.set_cons_zero, List.set_cons_succ]
          refine fT_take (i := 4) (v := ?_) rfl (by kernel_rfl) (fun _ _ _ h => h) (by rfl) hSd ?_ ?_
          rotate_left 1
          · intro wS hSw
            obtain ⟨s0, s1, s2, s3, s4, s5, s6, s7⟩ := hSw
            go_simp
            try with_reducible rfl
          try simp only [Act.put, List.setIfInBounds_toArray, List.set_cons_zero, List.set_cons_succ]
          refine fT_take (i := 5) (v := ?_) rfl (by kernel_rfl) (fun _ _ _ h => h) (by rfl) hSd ?_ ?_
          rotate_left 1
          · intro wS hSw
            obtain ⟨s0, s1, s2, s3, s4, s5, s6, s7⟩ := hSw
            go_simp
            try with_reducible rfl
          try simp only [Act.put, List.setIfInBounds_toArray, List.set_cons_zero, List.set_cons_succ]
          have bA : Below w9.heap.size w9 (wq.alloc (.cells #[.int .i64 con, .int .i64 day, .int .i64 cur, .int .i64 seq, .int .i64 per, .int .i64 (ref), .slice c ls.length cc] 26)) := bd.trans ((Below.refl _ _).alloc bd.size _)
          refine wpAnyF_next (i := 6) rfl (by kernel_rfl) (fun K hK => ?_)
          go_simp
          refine hK.out _ _ (.inr (HC.out _ bA)) ?_
          clear hK K
          try simp only [Act.put, List.setIfInBounds_toArray, List.set_cons_zero, List.set_cons_succ]
          refine wpAnyF_next (i := 7) rfl (by kernel_rfl) (fun K hK => ?_)
          have hMA := HMd.out.after bA
          refine step_append_lies _ (by rfl) _ _ _ (by rfl) w.heap.size 26 v0 _ 7 72 Tryd.underlying31 hv hv0 hv1 hv2 rfl (by omega) _ E1.length _ (by rfl) hMA.own ⟨wq.heap.size, 0, none⟩ 1 1 [.int .i64 con, .int .i64 day, .int .i64 cur, .int .i64 seq, .int .i64 per, .int .i64 (ref), .slice c ls.length cc] (by rfl) (by rfl) (World.news_of_block (cs := #[.int .i64 con, .int .i64 day, .int .i64 cur, .int .i64 seq, .int .i64 per, .int .i64 (ref), .slice c ls.length cc]) (t := 26) (fr := (0, 0)) (heap_alloc_new wq _)) (by simp [Value.oneCell']) (by omega) (by unfold maxLen; omega) (by omega) (by have := bA.size; omega) _ rfl ?_
          intro g c3 wG hown hgrow hat hgt
          have kG : Blk wG p1 #[.slice a1 E1.length c1, .map (some bm1)] 87 := hMA.kp.grown hgrow (hMA.kp.own_ne hMA.own (by decide))
          have hbne : (Value.slice a1 E1.length c1).ownBlock ≠ some wr.heap.size := fun e => HNw.out e
          have kX : Blk wG wr.heap.size #[.int .i64 con, .int .i64 day, .int .i64 cur, .int .i64 seq, .int .i64 per, .int .i64 (ref), .slice c ls.length cc] 26 := hMA.kb.grown hgrow hbne
          have m0 : wG.cell? ⟨p1, 0, none⟩ = some (.slice a1 E1.length c1) := kG.cell 0 rfl
          have mf := kG.free 0
          have hSG : (fun W => W.cell? ⟨p1, 0, none⟩ = some (.slice a1 E1.length c1) ∧ W.cell? ⟨wr.heap.size, 0, none⟩ = some (.int .i64 con) ∧ W.cell? ⟨wr.heap.size, 1, none⟩ = some (.int .i64 day) ∧ W.cell? ⟨wr.heap.size, 2, none⟩ = some (.int .i64 cur) ∧ W.cell? ⟨wr.heap.size, 3, none⟩ = some (.int .i64 seq) ∧ W.cell? ⟨wr.heap.size, 4, none⟩ = some (.int .i64 per) ∧ W.cell? ⟨wr.heap.size, 5, none⟩ = some (.int .i64 (ref)) ∧ W.cell? ⟨wr.heap.size, 6, none⟩ = some (.slice c ls.length cc)) wG := ⟨m0, kX.cell 0 rfl, kX.cell 1 rfl, kX.cell 2 rfl, kX.cell 3 rfl, kX.cell 4 rfl, kX.cell 5 rfl, kX.cell 6 rfl⟩
          dsimp only at hSG
          have HFin : Hid (PRel w p1 bm1 per seq (E.map En.p) (X.map En.p) (j + 1) (wG.setCell ⟨p1, 0, none⟩ (.slice (some ⟨g, 0, none⟩) (E1.length + 1) c3))) := hMA.put hown hgrow (hat.imp id fun e => by rw [e]; exact Nat.le_of_eq (by simp)) HE1.out HXj.out rfl HWr.out HOk.out
          refine hK.out _ _ (.inr hSG) ?_
          clear hK K hown hat hgt kX kG hMA hgrow
          try simp only [Act.put, List.setIfInBounds_toArray, List.set_cons_zero, List.set_cons_succ]
          refine wpAnyF_next (i := 8) rfl (by kernel_rfl) (fun K hK => ?_)
          go_simp
          refine hK.out _ _ (.inr hSG) ?_
          clear hK K
          try simp only [Act.put, List.setIfInBounds_toArray, List.set_cons_zero, List.set_cons_succ]
          refine wpAnyF_next (i := 9) rfl (by kernel_rfl) (fun K hK => ?_)
          go_simp
          refine hK.out _ _ (.inr hSG) ?_
          clear hK K
          try simp only [Act.put, List.setIfInBounds_toArray, List.set_cons_zero, List.set_cons_succ]
          refine wpAnyF_next (i := 10) rfl (by kernel_rfl) (fun K hK => ?_)
          go_simp
          refine hK.out _ _ (.inl rfl) ?_
          clear hK K
          try simp only [Act.put, List.setIfInBounds_toArray, List.set_cons_zero, List.set_cons_succ]
          refine wpAnyF_done (by kernel_rfl) ?_ _
          clear hSG hSd HC bA bd m0 mf
          have hlt := HLt.out
          go_wp2_with fail
          go_roundw
          case rel => exact ⟨j + 1, by omega, by go_num, HFin⟩
          case measure => simp [intOf]; omega
      · obtain ⟨N, hN⟩ : ∃ N, wrongE (E.map En.p ++ ((X.map En.p).take j).map (stamp per seq)) ⟨⟨con, day, cur, sq, pr, ref⟩, ls⟩ = N := ⟨_, rfl⟩
        have HBad : Hid (∀ w', Below w.heap.size w w' → PostEnd w p E true false per seq X (.returned (.tuple #[.int .i64 0, .int .i64 N])) w') := fun w' hb => PostEnd.bad HL.out hb (by rw [HPE.out, postK_bad HXj.out HOk.out (by exact hwr)]; exact hN) (by rw [← hN]; exact hwr)
        have d6 : (N == 0) = false := by rw [beq_eq_false_iff_ne, ← hN]; exact hwr
        rw [hN]
        have HB6 := Lib.hid hB6
        clear hwr hN hb6 hB6 HCk HK5 HW5 HX5 HLr HOr HXr
        go_wp2_with fail
        go_ret2
        exact HBad.out _ HB6.out
    · obtain rfl : j = X.length := by omega
      obtain ⟨a1, c1, E1, hL1, ho1, hE1, hf1⟩ := HQ.out.ex
      have hok := HQ.out.ok
      have hfull : postK per seq (E.map En.p) (X.map En.p) = (0, E.map En.p ++ (X.map En.p).map (stamp per seq)) := postK_ok fun i z hz => hok i (by have := (List.getElem?_eq_some_iff.1 hz).1; rw [List.length_map] at this; exact this) z hz
      have hpe : postE true false per seq (E.map En.p) (X.map En.p) = 0 := by rw [HPE.out, hfull]
      rw [List.take_of_length_le (by simp)] at hE1
      have hBr := HQ.out.be
      have hLw := HL.out.after hBr
      have k0 : wr.cell? ⟨p1, 0, none⟩ = some (.slice a1 E1.length c1) := hL1.blk.cell 0 rfl
      have k1 : wr.cell? ⟨p1, 1, none⟩ = some (.map (some bm1)) := hL1.blk.cell 1 rfl
      have m0 : wr.cell? ⟨p, 0, none⟩ = some (.slice a E.length cap) := hLw.blk.cell 0 rfl
      have m1 : wr.cell? ⟨p, 1, none⟩ = some (.map (some bm)) := hLw.blk.cell 1 rfl
      have f0 := hLw.blk.free 0
      have f1 := hLw.blk.free 1
      have hpw : p < w.heap.size := HL.out.blk.lt
      have hT : Turn [p] wr ((wr.setCell ⟨p, 0, none⟩ (.slice a1 E1.length c1)).setCell ⟨p, 1, none⟩ (.map (some bm1))) := (Turn.of_grown (grown_setCell wr p 0 _) (by simp)).trans (Turn.of_grown (grown_setCell _ p 1 _) (by simp))
      have HFin : Hid (PostEnd w p E true false per seq X (.returned (.tuple #[.int .i64 (E.length : Int), .int .i64 0])) ((wr.setCell ⟨p, 0, none⟩ (.slice a1 E1.length c1)).setCell ⟨p, 1, none⟩ (.map (some bm1)))) := by
        refine ⟨bm1, a1, c1, E1, by rw [hpe]; rfl, ⟨(hLw.blk.set 0 (.slice a1 E1.length c1)).set 1 (.map (some bm1)), hL1.sl.turnE hT (fun q hq => by rw [List.mem_singleton.1 hq]; exact hLw.box), fun e he => (hL1.ok e he).turn hT (fun q hq => by rw [List.mem_singleton.1 hq]; exact hLw.box), hL1.map.turnL hT (fun q hq => by rw [List.mem_singleton.1 hq]; exact hLw.box)⟩, ?_, ?_⟩
        · unfold postL; rw [hpe, if_pos rfl]; exact hE1
        · exact (Turn.of_below hBr |> fun h => (⟨h.os, h.tape, h.output, h.size, h.block⟩ : Turn [p] w wr)).trans hT
      have HLn1 := Lib.hid (HLn.out wr hBr)
      clear hL1 ho1 hE1 hf1 hok hfull hpe hBr hLw hT HQ
      go_wp2_with fail
      with_reducible refine HLn1.out.mono ?_
      rintro e w5 ⟨rfl, hw5⟩
      obtain rfl : wr = w5 := hw5.symm
      go_wp2_with fail
      go_ret2
      exact HFin.out

theorem lpost_ok (p bm : Nat) (a : Option Addr) (cap : Nat) (E : List En) (b s : Nat) (size locked per seq : Int) (ea : Option Addr) (ecap : Nat) (X : List En) (w : World) (hR : RulesAt w) (h : LgAt w p bm a cap E) (hw : WL (E.map En.p)) (hl : E.length ≤ 900000) (hP : Per w b s size locked) (h1 : 1 ≤ size) (h2 : size ≤ 400)
    (hx : EnsAt w ea X) (hxl : X.length ≤ 1000) (hxw : ∀ x ∈ X, (Lit.int .i64 x.s.ref).wf = true) :
    Calls Tryd.prog 37 #[.pointer (some ⟨p, 0, none⟩), .pointer (some ⟨b, 0, none⟩), .int .i64 per, .int .i64 seq, .slice ea X.length ecap] w (PostEnd w p E (decide (0 ≤ per ∧ per ≤ lastP size)) (decide (per < locked)) per seq X) := by
  by_cases h3 : 0 ≤ per ∧ per ≤ lastP size
  · rw [decide_eq_true h3]
    by_cases h5 : per < locked
    · rw [decide_eq_true h5]
      exact post_lock p bm a cap E b s size locked per seq ea ecap X w h hP h1 h2 h3.1 h3.2 h5
    · rw [decide_eq_false h5]
      by_cases h6 : seq < 0 ∨ seq < seqOf (E.map En.p)
      · exact post_seq p bm a cap E b s size locked per seq ea ecap X w h hl hP h1 h2 h3.1 h3.2 h5 h6
      · exact post_main p bm a cap E b s size locked per seq ea ecap X w hR h hw hl hP h1 h2 h3.1 h3.2 h5 (by omega) (by omega) hx hxl hxw
  · rw [decide_eq_false h3]
    exact post_none p bm a cap E b s size locked per seq ea ecap X w h hP h1 (by omega) _
theorem postL_wl {there lk : Bool} {per seq : Int} {L xs : List EnP} (h : WL L) (hp : there = true → 0 ≤ per) : WL (postL there lk per seq L xs) := by
  unfold postL
  split
  · rename_i he
    unfold postE at he
    split at he
    · cases he
    · rename_i h1
      split at he
      · cases he
      · split at he
        · cases he
        · rename_i h2
          exact h.puts (hp (by simpa using h1)) (by omega) (by omega) xs (postK_fst xs L he).2
  · exact h

end Go.Proofs.YtmjgcenhgpkhiaaDoor
