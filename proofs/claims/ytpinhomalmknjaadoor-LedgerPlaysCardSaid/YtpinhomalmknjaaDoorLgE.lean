/- Package ledger: Post. -/
import Derived.Test.YtpinhomalmknjaaDoorLgDb
import Derived.Test.YtpinhomalmknjaaDoorPrd
namespace Go.Proofs.YtpinhomalmknjaaDoor
open Go.RowKit Go.Sort Go.Shelf
set_option linter.unusedVariables false
set_option linter.unusedSimpArgs false

def PostEnd (w : World) (p : Nat) (E : List En) (there lk : Bool) (per seq : Int) (X : List En) (e : Ending) (w' : World) : Prop :=
  ∃ bm' a' cap' E', e = .returned (.tuple #[.int .i64 (if postE there lk per seq (E.map En.p) (X.map En.p) = 0 then (E.length : Int) else 0), .int .i64 (postE there lk per seq (E.map En.p) (X.map En.p))]) ∧ LgAt w' p bm' a' cap' E' ∧ E'.map En.p = postL there lk per seq (E.map En.p) (X.map En.p) ∧ Turn [p] w w'
theorem PostEnd.bad {w w' : World} {p bm : Nat} {a : Option Addr} {cap : Nat} {E : List En} {there lk : Bool} {per seq : Int} {X : List En} {n : Int} (h : LgAt w p bm a cap E) (hb : Below w.heap.size w w') (hn : postE there lk per seq (E.map En.p) (X.map En.p) = n) (h0 : n ≠ 0) : PostEnd w p E there lk per seq X (.returned (.tuple #[.int .i64 0, .int .i64 n])) w' := by
  refine ⟨bm, a, cap, E, ?_, h.after hb, ?_, Turn.of_below hb |> fun h => (⟨h.os, h.tape, h.output, h.size, h.block⟩ : Turn _ _ _)⟩
  · rw [hn, if_neg h0]
  · unfold postL; rw [hn, if_neg h0]

/-- The lines of an entry do not lie in a row. -/
def LnFar (v : Value) (e : En) : Prop := ∀ x, e.a = some x → 0 < e.ls.length → v.ownBlock ≠ some x.block
/-- Entries put so far. -/
structure PRel (w : World) (p1 bm1 : Nat) (per seq : Int) (L xs : List EnP) (j : Nat) (wr : World) : Prop where
  ex : ∃ a' cap' E', LgAt wr p1 bm1 a' cap' E' ∧ wr.ownsRow w.heap.size 27 7 (.slice a' E'.length cap') E'.length (cellsL En.cs E') ∧ E'.map En.p = L ++ (xs.take j).map (stamp per seq) ∧ ∀ e ∈ E', LnFar (.slice a' E'.length cap') e
  be : Below w.heap.size w wr
  ok : ∀ i, i < j → ∀ x, xs[i]? = some x → wrongE (L ++ (xs.take i).map (stamp per seq)) x = 0
/-- An entry, ready to be put: its box in B, the map turned already. -/
structure PMid (w : World) (p1 bm1 : Nat) (a : Option Addr) (cap : Nat) (E : List En) (B : Nat) (y : En) (wz : World) : Prop where
  kp : Blk wz p1 #[.slice a E.length cap, .map (some bm1)] 78
  own : wz.ownsRow w.heap.size 27 7 (.slice a E.length cap) E.length (cellsL En.cs E)
  kb : Blk wz B y.cs.toArray 27
  mp : MapAt OkN wz bm1 (byM (E.map En.p ++ [y.p]))
  ok : ∀ e ∈ E, EnOk wz e
  oy : EnOk wz y
  be : Below w.heap.size w wz
  hp : w.heap.size ≤ p1
  far : ∀ e ∈ E ++ [y], LnFar (.slice a E.length cap) e
theorem PMid.after {w : World} {p1 bm1 : Nat} {a : Option Addr} {cap : Nat} {E : List En} {B : Nat} {y : En} {wz wq : World} (h : PMid w p1 bm1 a cap E B y wz) (hb : Below wz.heap.size wz wq) : PMid w p1 bm1 a cap E B y wq :=
  ⟨h.kp.after hb, own_after h.own hb, h.kb.after hb, h.mp.after hb, fun e he => (h.ok e he).after hb, h.oy.after hb, h.be.trans (hb.mono h.be.size), h.hp, h.far⟩
theorem own_map_ne {w : World} {ok : Value → Prop} {base bm size n : Nat} {e : TypeId} {v : Value} {xs : List Value} {M : List (Value × Value)} (ho : w.ownsRow base e size v n xs) (hm : MapAt ok w bm M) : v.ownBlock ≠ some bm := fun hg => by
  obtain ⟨cur, hc⟩ := (own_cells ho hg).2.2
  obtain ⟨es, cl, he, _⟩ := hm
  rw [hc] at he
  cases he
/-- The like, less the map. -/
structure PMid0 (w : World) (p1 bm1 : Nat) (a : Option Addr) (cap : Nat) (E : List En) (B : Nat) (y : En) (wz : World) : Prop where
  kp : Blk wz p1 #[.slice a E.length cap, .map (some bm1)] 78
  own : wz.ownsRow w.heap.size 27 7 (.slice a E.length cap) E.length (cellsL En.cs E)
  kb : Blk wz B y.cs.toArray 27
  ok : ∀ e ∈ E, EnOk wz e
  oy : EnOk wz y
  be : Below w.heap.size w wz
  hp : w.heap.size ≤ p1
  far : ∀ e ∈ E ++ [y], LnFar (.slice a E.length cap) e
theorem PMid0.mid {w : World} {p1 bm1 : Nat} {a : Option Addr} {cap : Nat} {E : List En} {B : Nat} {y : En} {wz : World} (h : PMid0 w p1 bm1 a cap E B y wz) (hm : MapAt OkN wz bm1 (byM (E.map En.p ++ [y.p]))) : PMid w p1 bm1 a cap E B y wz :=
  ⟨h.kp, h.own, h.kb, hm, h.ok, h.oy, h.be, h.hp, h.far⟩
theorem Blk.map_ne {ok : Value → Prop} {w : World} {B bm : Nat} {cs : Array Value} {T : TypeId} {M : List (Value × Value)} (h : Blk w B cs T) (hm : MapAt ok w bm M) : some bm ≠ some B := fun e => by
  obtain ⟨es, cl, he, _⟩ := hm
  have h' : w.heap[B]? = some (.cells cs T (0, 0)) := h
  rw [← Option.some.inj e, he] at h'
  cases h'
theorem LnAt.mapped {ok : Value → Prop} {w w' : World} {bm : Nat} {M : List (Value × Value)} {a : Option Addr} {ls : List Ln} (h : LnAt w a ls) (hm : MapAt ok w bm M) (hg : w.grownBy w' (some bm)) : LnAt w' a ls := fun hl => by
  obtain ⟨b, o, e, hc⟩ := h hl
  have hne : some bm ≠ some b := fun e1 => by
    obtain ⟨es, cl, he, _⟩ := hm
    have h0 := (hc 0 hl).1
    rw [Option.some.inj e1] at he
    simp [World.cell?, he] at h0
  exact ⟨b, o, e, fun i hi => ⟨grown_cell hg (hc i hi).1 hne, grown_cell hg (hc i hi).2.1 hne, grown_cell hg (hc i hi).2.2 hne⟩⟩
theorem PMid0.mapped {ok : Value → Prop} {w : World} {p1 bm1 : Nat} {a : Option Addr} {cap : Nat} {E : List En} {B : Nat} {y : En} {wz wn : World} {M : List (Value × Value)} (h : PMid0 w p1 bm1 a cap E B y wz) (hm : MapAt ok wz bm1 M) (hg : wz.grownBy wn (some bm1)) (hb : w.heap.size ≤ bm1) : PMid0 w p1 bm1 a cap E B y wn :=
  ⟨h.kp.grown hg (h.kp.map_ne hm), own_kept h.own hg (fun g e q => own_map_ne h.own hm (by rw [e]; exact q.symm)), h.kb.grown hg (h.kb.map_ne hm), fun e he => ⟨(h.ok e he).ln.mapped hm hg, (h.ok e he).wf, (h.ok e he).few, (h.ok e he).nil⟩,
   ⟨h.oy.ln.mapped hm hg, h.oy.wf, h.oy.few, h.oy.nil⟩, h.be.grown hg h.be.size (fun q e => by cases e; exact hb), h.hp, h.far⟩
theorem PMid0.after {w : World} {p1 bm1 : Nat} {a : Option Addr} {cap : Nat} {E : List En} {B : Nat} {y : En} {wz wq : World} (h : PMid0 w p1 bm1 a cap E B y wz) (hb : Below wz.heap.size wz wq) : PMid0 w p1 bm1 a cap E B y wq :=
  ⟨h.kp.after hb, own_after h.own hb, h.kb.after hb, fun e he => (h.ok e he).after hb, h.oy.after hb, h.be.trans (hb.mono h.be.size), h.hp, h.far⟩
theorem own_low {w : World} {base base' e size n : Nat} {v : Value} {xs : List Value} (h : w.ownsRow base e size v n xs) (hb : base' ≤ base) : w.ownsRow base' e size v n xs := ⟨h.1, h.2.imp id fun ⟨g, cap, cur, h1, h2, h3⟩ => ⟨g, cap, cur, h1, Nat.le_trans hb h2, h3⟩⟩
/-- The entry put at the end. -/
theorem PMid.put {w : World} {p1 bm1 : Nat} {a : Option Addr} {cap : Nat} {E : List En} {B : Nat} {y : En} {wq wG : World} {g c3 : Nat} {per seq : Int} {L xs : List EnP} {j : Nat} {x : EnP} (h : PMid w p1 bm1 a cap E B y wq)
    (hown : wG.ownsRow w.heap.size 27 7 (.slice (some ⟨g, 0, none⟩) (E.length + 1) c3) (E.length + 1) (cellsL En.cs E ++ y.cs)) (hgrow : wq.grownBy wG (Value.slice a E.length cap).ownBlock)
    (hat : (Value.slice a E.length cap).ownBlock = some g ∨ wq.heap.size ≤ g)
    (hE : E.map En.p = L ++ (xs.take j).map (stamp per seq)) (hx : xs[j]? = some x) (hy : y.p = stamp per seq x) (hw : wrongE (L ++ (xs.take j).map (stamp per seq)) x = 0) (hk : ∀ i, i < j → ∀ x, xs[i]? = some x → wrongE (L ++ (xs.take i).map (stamp per seq)) x = 0) :
    PRel w p1 bm1 per seq L xs (j + 1) (wG.setCell ⟨p1, 0, none⟩ (.slice (some ⟨g, 0, none⟩) (E.length + 1) c3)) := by
  have kp : Blk wG p1 #[.slice a E.length cap, .map (some bm1)] 78 := h.kp.grown hgrow (h.kp.own_ne h.own (by decide))
  have mp : MapAt OkN wG bm1 (byM (E.map En.p ++ [y.p])) := h.mp.kept hgrow (own_map_ne h.own h.mp)
  have hT : Turn [p1] wG (wG.setCell ⟨p1, 0, none⟩ (.slice (some ⟨g, 0, none⟩) (E.length + 1) c3)) := Turn.of_grown (grown_setCell wG p1 0 _) (by simp)
  have hbox : ∀ q ∈ [p1], LBox wG q := fun q hq => by rw [List.mem_singleton.1 hq]; exact ⟨_, _, _, _, _, kp⟩
  obtain ⟨hj, hxe⟩ := List.getElem?_eq_some_iff.1 hx
  have hlen : (E ++ [y]).length = E.length + 1 := by simp
  have hokq : ∀ e ∈ E ++ [y], EnOk wq e := fun e he => by
    rcases List.mem_append.1 he with h1 | h1
    · exact h.ok e h1
    · rw [List.mem_singleton.1 h1]; exact h.oy
  have hokG : ∀ e ∈ E ++ [y], EnOk wG e := fun e he => ⟨fun hl => by
    obtain ⟨b, o, e1, hc⟩ := (hokq e he).ln hl
    have hne := h.far e he _ e1 hl
    exact ⟨b, o, e1, fun i hi => ⟨grown_cell hgrow (hc i hi).1 hne, grown_cell hgrow (hc i hi).2.1 hne, grown_cell hgrow (hc i hi).2.2 hne⟩⟩, (hokq e he).wf, (hokq e he).few, (hokq e he).nil⟩
  have hown2 : (wG.setCell ⟨p1, 0, none⟩ (.slice (some ⟨g, 0, none⟩) (E.length + 1) c3)).ownsRow w.heap.size 27 7 (.slice (some ⟨g, 0, none⟩) (E ++ [y]).length c3) (E ++ [y]).length (cellsL En.cs (E ++ [y])) := by
    rw [hlen, cellsL_snoc]
    exact hown.kept (grown_setCell wG p1 0 _) (Or.inr (kp.own_ne hown (by decide)))
  obtain ⟨a9, c9, e9, hsl, _⟩ := sl_own (enc := En.cs) En.cs_len hown2
  simp only [Value.slice.injEq, true_and] at e9
  obtain ⟨rfl, rfl⟩ := e9
  refine ⟨⟨some ⟨g, 0, none⟩, c3, E ++ [y], ⟨?_, hsl, fun e he => (hokG e he).turn hT hbox, ?_⟩, hown2, ?_, fun e he x0 e0 hl hg => ?_⟩, ?_, fun i hi z hz => ?_⟩
  · rw [hlen]; exact kp.set 0 _
  · rw [List.map_append]
    exact mp.turnL hT hbox
  · rw [List.map_append, hE, List.take_succ_eq_append_getElem hj, List.map_append, List.append_assoc, hxe]
    simp [hy]
  · simp only [Value.ownBlock, Option.some.injEq] at hg
    rcases hat with h1 | h1
    · exact h.far e he x0 e0 hl (by rw [h1, hg])
    · have := (hokq e he).ln.lt hl x0 e0
      omega
  · exact (h.be.grown hgrow h.be.size (fun q e => (own_cells h.own e).1)).trans (Turn.below hT (by have := h.be.size; have := hgrow.size; omega) (fun b hb => by rw [List.mem_singleton.1 hb]; exact h.hp))
  · rcases Nat.lt_or_ge i j with h1 | h1
    · exact hk i h1 z hz
    · obtain rfl : i = j := by omega
      rw [hx] at hz
      cases hz
      exact hw

end Go.Proofs.YtpinhomalmknjaaDoor
