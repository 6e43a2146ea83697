/- entry.Amount; slices.DeleteFunc that deletes nothing. -/
import Derived.Test.YtmjgcenhgpkhiaaDoorLgL
import Derived.Test.YtmjgcenhgpkhiaaDoorLgK
import Derived.Test.YtmjgcenhgpkhiaaDoorEfD
import Derived.Test.YtmjgcenhgpkhiaaDoorAdL
import Derived.Test.YtmjgcenhgpkhiaaDoorLgH
namespace Go.Proofs.YtmjgcenhgpkhiaaDoor
open Go.RowKit Go.Sort Go.Shelf
set_option linter.unusedVariables false
set_option linter.unusedSimpArgs false
set_option maxRecDepth 100000

def amtK (ls : List Ln) (party : Int) : Nat → Int
  | 0 => 0
  | k + 1 => if (Ln.at ls k).p = party then wrap64 (amtK ls party k + (Ln.at ls k).a) else amtK ls party k

set_option maxHeartbeats 1000000 in
theorem amount_ok (s : Six) (party : Int) (a : Option Addr) (cap : Nat) (ls : List Ln) (w : World) (hx : LnAt w a ls) (hl : ls.length ≤ 1000000) :
    Calls Tryd.prog 27 #[entV s a ls.length cap, .int .i64 party] w fun e w' => e = .returned (.int .i64 (amtK ls party ls.length)) ∧ Below w.heap.size w w' := by
  have HX := Lib.hid hx
  unfold entV
  obtain ⟨wa, hwa⟩ : ∃ wa, w.alloc (.cells (entCs s a ls.length cap) 26) = wa := ⟨_, rfl⟩
  have hba : Below w.heap.size w wa := by rw [← hwa]; exact (Below.refl _ _).alloc (Nat.le_refl _) _
  have hza : wa.heap.size = w.heap.size + 1 := by rw [← hwa]; simp
  have hbox : EBox wa w.heap.size s a ls.length cap := by rw [← hwa]; exact EBox.new _ _ _ _ _ _
  unfold entCs at hwa
  have HZA := Lib.hid hza
  clear hx hza
  obtain ⟨q0, q1, q2, q3, q4, q5, q6⟩ := id hbox
  go_enter Tryd.func27, Tryd.ntmps27
  go_wp2_with fail
  clear hwa q0 q1 q2 q3 q4 q5 q6
  go_loopw [5, 7, 11] (fun v _ i wr => ∃ k : Nat, k ≤ ls.length ∧ i = .int .i64 k ∧ v = .int .i64 (amtK ls party k) ∧ Below w.heap.size w wr ∧ w.heap.size + 1 ≤ wr.heap.size) (fun _ _ i _ => ls.length - (intOf i).toNat)
  case atStart => exact ⟨0, by omega, rfl, rfl, hba, by have := HZA.out; omega⟩
  case round =>
    obtain ⟨k, hk, rfl, rfl, hbl, zr⟩ := hrel
    clear hbox
    by_cases hlt : k < ls.length
    · obtain ⟨b, o, rfl, hcell⟩ := HX.out.after hbl (by omega)
      obtain ⟨c0, c1, c2⟩ := hcell k hlt
      have i1 : (0 : Int) ≤ (k : Int) := by omega
      have i2 : (k : Int) < (ls.length : Int) := by omega
      have hK : Hid (amtK ls party (k + 1) = if (Ln.at ls k).p = party then wrap64 (amtK ls party k + (Ln.at ls k).a) else amtK ls party k) := rfl
      clear hcell
      by_cases hp : (Ln.at ls k).p = party
      · have HP := Lib.hid hp
        go_wp2_with fail
        go_roundw
        case rel => exact ⟨k + 1, by omega, by go_num, by rw [hK.out, if_pos HP.out], hbl.alloc hbl.size _, by simp; omega⟩
        case measure => simp [intOf]; omega
      · have HP := Lib.hid hp
        go_wp2_with fail
        go_roundw
        case rel => exact ⟨k + 1, by omega, by go_num, by rw [hK.out, if_neg HP.out], hbl.alloc hbl.size _, by simp; omega⟩
        case measure => simp [intOf]; omega
    · obtain rfl : k = ls.length := by omega
      go_wp2_with fail
      go_ret
      exact ⟨rfl, hbl⟩

set_option maxHeartbeats 1000000 in
theorem dead_no (x : Lv) (hx : (Lit.int .i64 x.no).wf = true) (Bd dm : Nat) (W : World) (hB : Blk W Bd #[.map (some dm)] 73) (hM : MapAt OkN W dm []) :
    Calls Tryd.prog 29 #[.agg (encL x).toArray, .pointer (some ⟨Bd, 0, none⟩)] W fun e w' => e = .returned (.bool false) ∧ Below W.heap.size W w' := by
  obtain ⟨no, d, c, a⟩ := x
  dsimp only [encL] at hx ⊢
  obtain ⟨w1, hw1⟩ : ∃ Z, W.alloc (.cells #[.int .i64 no, .int .i64 d, .int .i64 c, .int .i64 a] 62) = Z := ⟨_, rfl⟩
  have hb1 : Below W.heap.size W w1 := by rw [← hw1]; exact (Below.refl _ _).alloc (Nat.le_refl _) _
  have K1 : Blk w1 W.heap.size #[.int .i64 no, .int .i64 d, .int .i64 c, .int .i64 a] 62 := by rw [← hw1]; exact Blk.new _ _ _
  have b0 : w1.cell? ⟨Bd, 0, none⟩ = some (.map (some dm)) := (hB.after hb1).cell 0 rfl
  have x0 : w1.cell? ⟨W.heap.size, 0, none⟩ = some (.int .i64 no) := K1.cell 0 rfl
  have HM := Lib.hid (hM.after hb1)
  have HB := Lib.hid hb1
  clear hB hM K1 hb1
  go_enter Tryd.func29, Tryd.ntmps29
  have HOut : Hid (∀ v, ((Value.int .i64 no, v) : Value × Value) ∉ ([] : List (Value × Value))) := fun v h => by simp at h
  go_wp2_with (at_lookup; refine wpList_look_out _ rfl _ _ 73 false rfl keyN Tryd.underlying73 Tryd.zeroValue4 rfl HM.out (.int .i64 no) rfl ⟨_, rfl, hx⟩ HOut.out ?_)
  go_ret
  exact ⟨rfl, HB.out⟩

set_option maxHeartbeats 2000000 in
theorem index_none (g : FuncId) (lb : Array Value) (eg : ∀ args w, (callFunc g args).run Tryd.prog w = .ok (.enter g args) w) (a : Option Addr) (cap : Nat) (l : List Lv) (w : World) (h : SlG w 4 encL a cap l)
    (hp : ∀ (W : World) (x : Lv), x ∈ l → Below w.heap.size w W → Calls Tryd.prog g (#[.agg (encL x).toArray] ++ lb) W fun e w' => e = .returned (.bool false) ∧ Below W.heap.size W w') (hl : l.length ≤ 1000) :
    Calls Tryd.prog 41 #[.slice a l.length cap, .func (.func g) #[] lb] w fun e w' => e = .returned (.int .i64 (-1)) ∧ Below w.heap.size w w' := by
  have H := Lib.hid h
  have HP := Lib.hid hp
  clear h hp
  go_enter Tryd.func41, Tryd.ntmps41
  go_wp2_with fail
  go_loopw [8] (fun i wr => ∃ k : Nat, k ≤ l.length ∧ i = .int .i64 (k : Int) ∧ Below w.heap.size w wr) (fun i _ => l.length - (intOf i).toNat)
  case atStart => exact ⟨0, by omega, rfl, Below.refl _ _⟩
  case round =>
    obtain ⟨k, hk, rfl, hb⟩ := hrel
    by_cases hlt : k < l.length
    · obtain ⟨x, hy⟩ : ∃ x, l[k]'hlt = x := ⟨_, rfl⟩
      have hx : l[k]? = some x := by rw [← hy]; exact List.getElem?_eq_getElem hlt
      obtain ⟨b0, o0, rfl, _⟩ := H.out.recs (by omega)
      have hXr : RecsAt wr (some ⟨b0, o0, none⟩) 4 encL l := RowsAt.after H.out.recs hb
      have HC := Lib.hid (HP.out wr x (List.mem_of_getElem? hx) hb)
      obtain ⟨no, d, c, am⟩ := x
      have q0 : wr.cell? ⟨b0, o0 + k * 4, none⟩ = some (.int .i64 no) := RecsAt.cell hXr rfl hlt hx (j := 0) rfl
      have q1 : wr.cell? ⟨b0, o0 + k * 4 + 1, none⟩ = some (.int .i64 d) := RecsAt.cell hXr rfl hlt hx (j := 1) rfl
      have q2 : wr.cell? ⟨b0, o0 + k * 4 + 2, none⟩ = some (.int .i64 c) := RecsAt.cell hXr rfl hlt hx (j := 2) rfl
      have q3 : wr.cell? ⟨b0, o0 + k * 4 + 3, none⟩ = some (.int .i64 am) := RecsAt.cell hXr rfl hlt hx (j := 3) rfl
      have i1 : (0 : Int) ≤ (k : Int) := by omega
      have i2 : (k : Int) < (l.length : Int) := by omega
      have HBb := Lib.hid hb
      clear hy hx hXr hb
      dsimp only [encL] at HC
      go_wp2_with fail
      with_reducible refine HC.out.mono ?_
      rintro e w1 ⟨rfl, hb1⟩
      clear q0 q1 q2 q3
      go_wp2_with fail
      go_roundw
      case rel => exact ⟨k + 1, by omega, by go_num, HBb.out.trans (hb1.mono HBb.out.size)⟩
      case measure => simp [intOf]; omega
    · obtain rfl : k = l.length := by omega
      go_wp2_with fail
      go_ret
      exact ⟨rfl, hb⟩
theorem delete_none (g : FuncId) (lb : Array Value) (eg : ∀ args w, (callFunc g args).run Tryd.prog w = .ok (.enter g args) w) (a : Option Addr) (cap : Nat) (l : List Lv) (w : World) (h : SlG w 4 encL a cap l)
    (hp : ∀ (W : World) (x : Lv), x ∈ l → Below w.heap.size w W → Calls Tryd.prog g (#[.agg (encL x).toArray] ++ lb) W fun e w' => e = .returned (.bool false) ∧ Below W.heap.size W w') (hl : l.length ≤ 1000) :
    Calls Tryd.prog 28 #[.slice a l.length cap, .func (.func g) #[] lb] w fun e w' => e = .returned (.slice a l.length cap) ∧ Below w.heap.size w w' := by
  have HC := Lib.hid (index_none g lb eg a cap l w h hp hl)
  clear h hp
  go_enter Tryd.func28, Tryd.ntmps28
  go_wp2_with fail
  with_reducible refine HC.out.mono ?_
  rintro e w1 ⟨rfl, hb1⟩
  go_wp2_with fail
  go_ret
  exact ⟨rfl, hb1⟩

end Go.Proofs.YtmjgcenhgpkhiaaDoor
namespace Go.Proofs.YtmjgcenhgpkhiaaDoor
open Go.RowKit Go.Sort Go.Shelf
set_option linter.unusedVariables false
set_option linter.unusedSimpArgs false
attribute [local go_sem] Oper.semAt_some

theorem infoI : (Tryd.prog.info? 3).map (fun i => (i.zero, i.size, i.bytes)) = some (some (.int .i64 0), 1, 8) := by kernel_rfl
/-- A block of another type stays what it is, where a row is appended to. -/
theorem app_keep {W w1 : World} {n0 size k B : Nat} {e : TypeId} {v : Value} {xs : List Value} {tmp : Obj} (hrow : W.ownsRow n0 e size v k xs) (hgrow : (W.alloc tmp).grownBy w1 v.ownBlock) (u : Value) {q : Nat} {cs : Array Value} {T : TypeId} {fr : Nat × Nat} (h : W.heap[q]? = some (.cells cs T fr)) (hT : T ≠ e) (hB : q ≠ B) :
    (w1.setCell ⟨B, 0, none⟩ u).heap[q]? = some (.cells cs T fr) := by
  have hq := (Array.getElem?_eq_some_iff.1 h).1
  have h1 : (W.alloc tmp).heap[q]? = some (.cells cs T fr) := ((Below.refl W.heap.size W).alloc (Nat.le_refl _) tmp).block q hq |>.trans h
  have h2 : w1.heap[q]? = some (.cells cs T fr) := (hgrow.block q (by simp; omega) (fun e1 => by
    obtain ⟨cur, hc⟩ := (own_cells hrow e1.symm).2.2
    rw [h] at hc
    cases hc
    exact hT rfl)).trans h1
  exact ((grownBy_setCell' w1 B u).block q (Array.getElem?_eq_some_iff.1 h2).1 (fun e1 => hB (Option.some.inj e1))).trans h2
theorem EnOk.kept {W W' : World} {x : En} (h : EnOk W x) (ht : TyLn W x.a) (hk : ∀ (q : Nat) (cs : Array Value) (fr : Nat × Nat), W.heap[q]? = some (.cells cs 69 fr) → W'.heap[q]? = some (.cells cs 69 fr)) : EnOk W' x ∧ TyLn W' x.a := by
  refine ⟨⟨fun hl => ?_, h.wf, h.few, h.nil⟩, fun y e => ?_⟩
  · obtain ⟨b, o, e, hc⟩ := h.ln hl
    obtain ⟨cs, fr, hb⟩ := ht _ e
    have hbb : W'.heap[b]? = W.heap[b]? := (hk b cs fr hb).trans hb.symm
    exact ⟨b, o, e, fun i hi => ⟨(World.cell?_of_block hbb).trans (hc i hi).1, (World.cell?_of_block hbb).trans (hc i hi).2.1, (World.cell?_of_block hbb).trans (hc i hi).2.2⟩⟩
  · obtain ⟨cs, fr, hb⟩ := ht y e
    exact ⟨cs, fr, hk _ _ _ hb⟩
theorem own_block {W W' : World} {base size k : Nat} {e : TypeId} {v : Value} {xs : List Value} (h : W.ownsRow base e size v k xs) (hk : ∀ (q : Nat) (cs : Array Value) (fr : Nat × Nat), W.heap[q]? = some (.cells cs e fr) → W'.heap[q]? = some (.cells cs e fr)) : W'.ownsRow base e size v k xs := by
  obtain ⟨h1, h2⟩ := h
  refine ⟨h1, ?_⟩
  rcases h2 with h2 | ⟨g, cap, cur, hv, hg, hh, r⟩
  · exact Or.inl h2
  · exact Or.inr ⟨g, cap, cur, hv, hg, hk _ _ _ hh, r⟩
theorem app_mid {W w1 : World} {m size k B q : Nat} {e : TypeId} {v : Value} {xs : List Value} {tmp : Obj} (hrow : W.ownsRow m e size v k xs) (hm : m ≤ W.heap.size) (hgrow : (W.alloc tmp).grownBy w1 v.ownBlock) (u : Value) (hq : q < m) (hB : B ≠ q) : (w1.setCell ⟨B, 0, none⟩ u).heap[q]? = W.heap[q]? := by
  have h1 : (W.alloc tmp).heap[q]? = W.heap[q]? := ((Below.refl W.heap.size W).alloc (Nat.le_refl _) tmp).block q (by omega)
  have h2 : w1.heap[q]? = (W.alloc tmp).heap[q]? := hgrow.block q (by simp; omega) (fun e1 => by have := (own_cells hrow e1.symm).1; omega)
  have h3 : q < w1.heap.size := by have := hgrow.size; simp at this; omega
  exact ((grownBy_setCell' w1 B u).block q h3 (fun e1 => hB (Option.some.inj e1).symm)).trans (h2.trans h1)
theorem own_lowI {w : World} {base base' e size n : Nat} {v : Value} {xs : List Value} (h : w.ownsRow base e size v n xs) (hb : base' ≤ base) : w.ownsRow base' e size v n xs := ⟨h.1, h.2.imp id fun ⟨g, cap, cur, h1, h2, h3⟩ => ⟨g, cap, cur, h1, Nat.le_trans hb h2, h3⟩⟩
theorem eqlfL (fn : Fn) (a b : Array Value) (w : World) : (binOp .eql 71 (.func fn a b) .nilFunc).run Tryd.prog w = .ok (.bool false) w := by kernel_rfl
end Go.Proofs.YtmjgcenhgpkhiaaDoor
namespace Go.Proofs.YtmjgcenhgpkhiaaDoor
open Go.RowKit Go.Sort Go.Shelf
set_option linter.unusedVariables false
set_option linter.unusedSimpArgs false
attribute [local go_sem] Oper.semAt_some

/-- What an entry is to a party: a live amount, or none. -/
def lvF (party : Int) (z : Int × EnP) : Option Lv := if amtK z.2.ls party z.2.ls.length = 0 then none else some ⟨z.1, z.2.s.day, z.2.s.cur, amtK z.2.ls party z.2.ls.length⟩
def lvsP (party : Int) (A : List (Int × EnP)) : List Lv := A.filterMap (lvF party)
theorem lvsP_snoc (party : Int) (A : List (Int × EnP)) (z : Int × EnP) : lvsP party (A ++ [z]) = lvsP party A ++ (lvF party z).toList := by
  unfold lvsP
  rw [List.filterMap_append]
  cases h : lvF party z <;> simp [h]
theorem lvsP_len (party : Int) (A : List (Int × EnP)) : (lvsP party A).length ≤ A.length := List.length_filterMap_le _ _
theorem SeqTells.fact {α : Type} {P : Program} {F : Fence} {n : Nat} {g : Nat} {lb : Array Value} {encs : α → Array Value} {Fact Fact' : α → World → Prop} {Kp : Nat → Nat → World → World → Prop} {S Sp : List α → Prop} {N : Nat} {w : World} (h : SeqTells F n P g lb encs Fact Kp S Sp N w) (hi : ∀ x W, Fact x W → Fact' x W) : SeqTells F n P g lb encs Fact' Kp S Sp N w :=
  fun l J Jx W hW hJ hJx hY h0 => h l J Jx W hW hJ hJx (fun m pre x W1 hm hj hf hl => hY m pre x W1 hm hj (hi _ _ hf) hl) h0

structure OfI (n0 m : Nat) (w0 : World) (party : Int) (pre : List (Int × EnP)) (W : World) : Prop where
  re : ∃ v, Boxed W (n0 + 1 + 1 + 1) 44 v ∧ W.ownsRow m 62 4 v (lvsP party pre).length (cellsL encL (lvsP party pre))
  b2 : Blk W n0 #[.int .i64 party] 3
  b5 : Blk W (n0 + 1 + 1) #[.map (some (n0 + 1))] 73
  mp : MapAt OkN W (n0 + 1) []
  be : Below n0 w0 W
  sz : w0.heap.size ≤ W.heap.size
  mz : m ≤ W.heap.size
theorem OfI.own (B n0 m : Nat) (w0 : World) (party : Int) (hB : n0 + 4 ≤ B) : OwnFrom B (fun (pre : List (Int × En)) W => OfI n0 m w0 party (pre.map prI) W) := fun pre W W' row h hg hr => by
  have hk : ∀ (q : Nat) (cs : Array Value) (T : TypeId) (fr : Nat × Nat), W.heap[q]? = some (.cells cs T fr) → W'.heap[q]? = some (.cells cs T fr) := fun q cs T fr hq => (hg.block q (Array.getElem?_eq_some_iff.1 hq).1 (fun e => by
    obtain ⟨_, o, h1, h2⟩ := hr q e.symm
    rw [hq] at h1
    cases h1
    cases h2)).trans hq
  obtain ⟨ve, he1, he2⟩ := h.re
  exact ⟨⟨ve, hk _ _ _ _ he1, own_block he2 (fun q cs fr => hk q cs _ fr)⟩, hk _ _ _ _ h.b2, hk _ _ _ _ h.b5, h.mp.block (hg.block (n0 + 1) h.mp.lt (fun e => by have := (hr _ e.symm).1; omega)), h.be.grown hg (by have := h.b2.lt; omega) (fun q e => by have := (hr q e).1; omega), Nat.le_trans h.sz hg.size, Nat.le_trans h.mz hg.size⟩
theorem OfI.after {n0 m : Nat} {w0 : World} {party : Int} {pre : List (Int × EnP)} {W W' : World} (h : OfI n0 m w0 party pre W) (hb : Below W.heap.size W W') : OfI n0 m w0 party pre W' := by
  obtain ⟨ve, he1, he2⟩ := h.re
  exact ⟨⟨ve, Blk.after he1 hb, own_after he2 hb⟩, h.b2.after hb, h.b5.after hb, h.mp.after hb, h.be.trans (hb.mono (by have := h.b2.lt; omega)), Nat.le_trans h.sz hb.size, Nat.le_trans h.mz hb.size⟩
theorem OfI.ent {n0 m lo : Nat} {w0 W w1 : World} {party : Int} {pre : List (Int × EnP)} {v v' : Value} {z : Int × EnP} {x : Lv} {tmp : Obj} (h : OfI n0 m w0 party pre W) (hn : n0 + 4 ≤ m) (hlo : n0 + 4 ≤ lo) (hv : Boxed W (n0 + 1 + 1 + 1) 44 v) (ho : W.ownsRow m 62 4 v (lvsP party pre).length (cellsL encL (lvsP party pre))) (hx : lvF party z = some x)
    (hown : w1.ownsRow m 62 4 v' ((lvsP party pre).length + 1) (cellsL encL (lvsP party pre) ++ encL x)) (hgrow : (W.alloc tmp).grownBy w1 v.ownBlock) : OfI n0 m w0 party (pre ++ [z]) (w1.setCell ⟨n0 + 1 + 1 + 1, 0, none⟩ v') ∧ KeepsOthers W (w1.setCell ⟨n0 + 1 + 1 + 1, 0, none⟩ v') ∧ Kept n0 lo m W (w1.setCell ⟨n0 + 1 + 1 + 1, 0, none⟩ v') ∧ Boxed w1 (n0 + 1 + 1 + 1) 44 v := by
  have hmk := h.mz
  obtain ⟨h1, h2, h3, h4, h5⟩ := hv.appended (by decide) (own_lowI ho (show n0 ≤ m by omega)) (by omega) (show n0 ≤ n0 + 1 + 1 + 1 by omega) (own_lowI hown (show n0 ≤ m by omega)) hgrow
  have hk : ∀ q, q < m → q ≠ n0 + 1 + 1 + 1 → (w1.setCell ⟨n0 + 1 + 1 + 1, 0, none⟩ v').heap[q]? = W.heap[q]? := fun q hq hne => app_mid ho hmk hgrow v' hq (fun e => hne e.symm)
  have hl : lvsP party (pre ++ [z]) = lvsP party pre ++ [x] := by rw [lvsP_snoc, hx]; rfl
  refine ⟨⟨⟨v', h2, ?_⟩, (hk _ (by omega) (by omega)).trans h.b2, (hk _ (by omega) (by omega)).trans h.b5, h.mp.block (hk _ (by omega) (by omega)), h.be.trans h5, Nat.le_trans h.sz h5.size, Nat.le_trans h.mz h5.size⟩, h4, ⟨h5, fun q ob g1 g2 g3 _ => (app_mid ho hmk hgrow v' g2 (by omega)).trans g3⟩, h1⟩
  rw [hl, List.length_append, List.length_singleton, cellsL_snoc]
  exact hown.kept (grownBy_setCell' w1 _ v') (.inr (h1.not_row (by decide) hown).symm)

theorem eqlfO (fn : Fn) (a b : Array Value) (w : World) : (binOp .eql 72 (.func fn a b) .nilFunc).run Tryd.prog w = .ok (.bool false) w := by kernel_rfl
def OfEnd (w : World) (party : Int) (A : List (Int × EnP)) (e : Ending) (w' : World) : Prop := ∃ a cap, e = .returned (.slice a (lvsP party A).length cap) ∧ SlAt w' 4 encL a cap (lvsP party A) ∧ Below w.heap.size w w'
theorem alloc_atO {W : World} {q : Nat} (h : W.heap.size = q) (o : Obj) : (W.alloc o).heap[q]? = some o := by rw [← h]; exact World.alloc_heap_new W o
set_option maxRecDepth 100000 in
set_option maxHeartbeats 8000000 in
theorem of_any (gf : Nat) (lb : Array Value) (party : Int) (N : Nat) (A : List (Int × EnP)) (Sp : List (Int × En) → Prop) (w : World) (hN : N ≤ 900) (hA : A.length ≤ 900) (hAw : ∀ z ∈ A, (Lit.int .i64 z.1).wf = true) (hgf : ∀ args w, (callFunc gf args).run Tryd.prog w = .ok (.enter gf args) w)
    (h : ∀ w0, Below w.heap.size w w0 → SeqTells Fence.wide 4 Tryd.prog gf lb encIE (fun z W => FactIE w.heap.size z W ∧ z.2.s.ref = -1) (Kept w.heap.size) (fun xs => xs.map prI = A) Sp N w0) :
    Calls Tryd.prog 13 #[.int .i64 party, .func (.func gf) #[] lb] w (OfEnd w party A) := by
  have hmm := @run_makeMap Tryd.prog
  obtain ⟨j0, hj, hj0, hj1, hj2⟩ := info_parts infoLv
  refine (callsIn_wide (n := 5)).1 ?_
  refine callsIn_of_wp_marks Tryd.func13 rfl trivial ?_ rfl
  simp only [Tryd.ntmps13, List.size_toArray, List.length_cons, List.length_nil, Nat.reduceAdd, Nat.reduceSub, Array.replicate_succ, Array.replicate_zero, List.push_toArray, List.append_toArray, List.nil_append, List.cons_append]
  refine wpIn_wide.2 ?_
  have heq := eqlfO (.func gf) #[] lb
  have HS := Lib.hid h
  have HAw := Lib.hid hAw
  clear h hAw
  go_wp2_with fail
  obtain ⟨w0, hw0⟩ : ∃ w0, (((w.alloc (.cells #[.int .i64 party] 3)).alloc (.map #[] 0)).alloc (.cells #[.map (some (w.heap.size + 1))] 73)).alloc (.cells #[.slice none 0 0] 44) = w0 := ⟨_, rfl⟩
  rw [hw0]
  have hb0 : Below w.heap.size w w0 := by rw [← hw0]; exact ((((Below.refl _ _).alloc (Nat.le_refl _) _).alloc (by simp) _).alloc (by simp; omega) _).alloc (by simp; omega) _
  have z0 : w0.heap.size = w.heap.size + 4 := by rw [← hw0]; simp
  have hnew : ∀ (W : World) (v : Value) (t : TypeId) (q : Nat), W.heap.size = q → Blk (W.alloc (.cells #[v] t)) q #[v] t := fun W v t q e => by rw [← e]; exact Blk.new _ _ _
  have k2 : Blk w0 w.heap.size #[.int .i64 party] 3 := by rw [← hw0]; exact (((hnew _ _ _ _ rfl).alloc _).alloc _).alloc _
  have k5 : Blk w0 (w.heap.size + 1 + 1) #[.map (some (w.heap.size + 1))] 73 := by rw [← hw0]; exact (hnew _ _ _ _ (by simp)).alloc _
  have k6 : Blk w0 (w.heap.size + 1 + 1 + 1) #[.slice none 0 0] 44 := by rw [← hw0]; exact hnew _ _ _ _ (by simp)
  have kM : MapAt OkN w0 (w.heap.size + 1) [] := by
    rw [← hw0]
    have h1 := MapAt.made OkN (w.alloc (.cells #[.int .i64 party] 3))
    rw [show (w.alloc (.cells #[.int .i64 party] 3)).heap.size = w.heap.size + 1 by simp] at h1
    exact (h1.after ((Below.refl _ _).alloc (Nat.le_refl _) _)).after ((Below.refl _ _).alloc (Nat.le_refl _) _)
  have hL0 : ∀ m W, Below w0.heap.size w0 W → w0.heap.size + 2 ≤ m → m ≤ W.heap.size → OfI w.heap.size m w0 party [] W := fun m W hW _ hm => ⟨⟨_, k6.after hW, World.ownsRow_nil _ _ _ _⟩, k2.after hW, k5.after hW, kM.after hW, hW.mono (by omega), hW.size, hm⟩
  have HS0 := Lib.hid (HS.out w0 hb0)
  have HB0 := Lib.hid hb0
  clear hw0 hb0 HS heq hnew k2 k5 k6 kM
  refine wpIn_wide (n := 5) |>.1 ?_
  refine wpIn_range_tells rfl (by omega) (gf := gf) (lb := lb) rfl trivial hgf HS0.out (fun m A B C h k => h.trans k) (fun m A B hA hb => Kept.of_below hb (by omega)) (fun m A l r o' hl h => Kept.put h (by omega) (not_plain_loop r)) (Below.refl _ _) (fun _ => rfl)
    (fun m (pre : List (Int × En)) W => OfI w.heap.size m w0 party (pre.map prI) W) (fun _ _ => False)
    (fun m => OfI.own _ _ m _ _ (by omega)) (fun _ _ _ _ hs _ _ => hs) hL0 (fun m pre W h => h.mz) (fun x s W W' row h hg hr => ⟨FactIE.own _ _ x s W W' row h.1 hg hr, h.2⟩)
    26 (fun z => z.2.cs)
    (fun z Bx => { tmps := #[.int .i64 party, .func (.func gf) #[] lb, .pointer (some ⟨w.heap.size, 0, none⟩), undef, .slice none 0 0, .pointer (some ⟨w.heap.size + 1 + 1, 0, none⟩), .pointer (some ⟨w.heap.size + 1 + 1 + 1, 0, none⟩), .int .i64 z.1, .pointer (some ⟨Bx, 0, none⟩), undef, .func (.func gf) #[] lb, .bool false, .map (some (w.heap.size + 1)), .func (.func gf) #[] lb, .int .i64 z.1, entV z.2.s z.2.a z.2.ls.length z.2.cap, undef, undef, undef, undef, undef, undef, undef, undef, undef, undef, undef, undef, undef, undef, undef, undef, undef, undef, undef, undef, undef, undef, undef, undef, undef, undef], defers := [] })
    ?assign ?body ?done ?stop
  case assign =>
    intro l pre x W K hI hK
    have hK' := Lib.hid hK
    clear hK hI
    obtain ⟨k, ⟨con, day, cur, seq, per, ref⟩, xa, xc, ls⟩ := x
    dsimp only [encIE, entV, En.cs] at hK' ⊢
    gi_wp2_with fail
    simpa using hK'.out
  case body =>
    rintro l m pre x Bx W hl1 hl2 hm2 ⟨r, hr⟩ hI ⟨hF, hrf⟩ hX hlt
    have HPx : Hid (∀ W, OfI w.heap.size m w0 party ((pre ++ [x]).map prI) W = OfI w.heap.size m w0 party (pre.map prI ++ [prI x]) W) := fun W => by rw [List.map_append]; rfl
    have hpl : (pre.map prI).length < 900 := by rw [List.length_map]; omega
    obtain ⟨ps, hps⟩ : ∃ ps, pre.map prI = ps := ⟨_, rfl⟩
    rw [hps] at hpl hI HPx
    clear hps
    obtain ⟨k, ⟨con, day, cur, seq, per, ref⟩, xa, xc, ls⟩ := x
    dsimp only at hrf
    subst hrf
    have hlv := lvsP_len party ps
    have hn : w.heap.size + 4 ≤ m := by omega
    have hmk := hI.mz
    have HI := Lib.hid hI
    have HF := Lib.hid hF
    have HX := Lib.hid hX
    have x0 : W.cell? ⟨Bx, 0, none⟩ = some (.int .i64 con) := hX.cell 0 rfl
    have x1 : W.cell? ⟨Bx, 1, none⟩ = some (.int .i64 day) := hX.cell 1 rfl
    have x2 : W.cell? ⟨Bx, 2, none⟩ = some (.int .i64 cur) := hX.cell 2 rfl
    have x3 : W.cell? ⟨Bx, 3, none⟩ = some (.int .i64 seq) := hX.cell 3 rfl
    have x4 : W.cell? ⟨Bx, 4, none⟩ = some (.int .i64 per) := hX.cell 4 rfl
    have x5 : W.cell? ⟨Bx, 5, none⟩ = some (.int .i64 (-1)) := hX.cell 5 rfl
    have x6 : W.cell? ⟨Bx, 6, none⟩ = some (.slice xa ls.length xc) := hX.cell 6 rfl
    have c2 : W.cell? ⟨w.heap.size, 0, none⟩ = some (.int .i64 party) := hI.b2.cell 0 rfl
    have ham := amount_ok ⟨con, day, cur, seq, per, -1⟩ party xa xc ls W hF.ok.ln (Nat.le_trans (show ls.length ≤ 1000 from hF.ok.few) (by decide))
    dsimp only [entV] at ham
    obtain ⟨AM, hAM⟩ : ∃ z, amtK ls party ls.length = z := ⟨_, rfl⟩
    rw [hAM] at ham
    have HAm := Lib.hid ham
    have HAM := Lib.hid hAM
    dsimp only [encIE, entV, En.cs] at HX ⊢
    clear hI hF hX hr ham hAM
    gi_wp2_with fail
    refine ⟨trivial, ?_⟩
    with_reducible refine (CallsIn.inRound l (callsIn_wide.2 HAm.out)).mono ?_
    rintro e W2 ⟨rfl, hW2⟩
    clear x0 x1 x2 x3 x4 x5 x6 c2
    have HI2 := Lib.hid (HI.out.after hW2)
    have HX2 : Hid (Blk W2 Bx #[.int .i64 con, .int .i64 day, .int .i64 cur, .int .i64 seq, .int .i64 per, .int .i64 (-1), .slice xa ls.length xc] 26) := Blk.after HX.out hW2
    have HW2 := Lib.hid hW2
    have z2 := hW2.size
    by_cases ha : AM = 0
    · have hF : Hid (KeepsFrom w0.heap.size W W2 ∧ Kept w.heap.size (w0.heap.size + 2) m W W2 ∧ OfI w.heap.size m w0 party (ps ++ [prI (k, ⟨⟨con, day, cur, seq, per, -1⟩, xa, xc, ls⟩)]) W2) := by
        refine ⟨⟨z2, fun q o _ hq _ => (HW2.out.block q (Array.getElem?_eq_some_iff.1 hq).1).trans hq⟩, Kept.of_below HW2.out (by omega), ?_⟩
        have hl : lvsP party (ps ++ [prI (k, ⟨⟨con, day, cur, seq, per, -1⟩, xa, xc, ls⟩)]) = lvsP party ps := by
          rw [lvsP_snoc, show lvF party (prI (k, ⟨⟨con, day, cur, seq, per, -1⟩, xa, xc, ls⟩)) = none from if_pos (HAM.out.trans ha)]
          simp
        have h2 := HI2.out
        exact ⟨by rw [hl]; exact h2.re, h2.b2, h2.b5, h2.mp, h2.be, h2.sz, h2.mz⟩
      subst ha
      gi_wp2_with fail
      refine ⟨hF.out.1, hF.out.2.1, ?_⟩
      exact Eq.mpr (HPx.out _) hF.out.2.2
    · have d1 : (AM == 0) = false := by rw [beq_eq_false_iff_ne]; exact ha
      obtain ⟨v6, hv6, ho6⟩ := HI2.out.re
      obtain ⟨a6, q6, rfl, _⟩ := sl_own (enc := encL) (fun _ => rfl) ho6
      have hc6 := hv6.cell
      have x1 : W2.cell? ⟨Bx, 1, none⟩ = some (.int .i64 day) := HX2.out.cell 1 rfl
      have x2 : W2.cell? ⟨Bx, 2, none⟩ = some (.int .i64 cur) := HX2.out.cell 2 rfl
      have hlf : lvF party (prI (k, ⟨⟨con, day, cur, seq, per, -1⟩, xa, xc, ls⟩)) = some ⟨k, day, cur, AM⟩ := by
        show (if amtK ls party ls.length = 0 then none else some (⟨k, day, cur, amtK ls party ls.length⟩ : Lv)) = _
        rw [HAM.out, if_neg ha]
      have HLf := Lib.hid hlf
      clear ha hlf
      gi_wp2_with (gi_at_builtin; refine wpListIn_append_own _ rfl _ _ 44 rfl m 62 j0 _ 4 32 Tryd.underlying44 hj hj0 hj1 hj2 rfl (by decide) _ _ _ rfl (ho6.alloc _) ⟨W2.heap.size, 0, none⟩ 1 1 [.int .i64 k, .int .i64 day, .int .i64 cur, .int .i64 AM] rfl rfl (World.news_of_block (cs := #[.int .i64 k, .int .i64 day, .int .i64 cur, .int .i64 AM]) (t := 62) (fr := (0, 0)) (heap_alloc_new W2 _)) (by simp [Value.oneCell']) (by unfold maxLen; omega) (by omega) (by simp; omega) ?_; intro v6' w6 hown6 hgrow6 _; obtain ⟨g6, c6, rfl⟩ := ownsRow_succ hown6; obtain ⟨hL6, hko6, hb6, hw6⟩ := HI2.out.ent hn (lo := w0.heap.size + 2) (by omega) hv6 ho6 HLf.out hown6 hgrow6; have hc6' := hw6.cell; have hf6' := hw6.frozen; have HL6 := Lib.hid hL6; have HKO := Lib.hid (hko6.from w0.heap.size); have HKB := Lib.hid hb6; clear hL6 hown6 hgrow6 hko6 hb6 hc6 x1 x2)
      refine ⟨⟨Nat.le_trans z2 HKO.out.size, fun q o hq h ho => HKO.out.same q o hq ((HW2.out.block q (Array.getElem?_eq_some_iff.1 h).1).trans h) ho⟩, (Kept.of_below HW2.out (by omega)).trans HKB.out, ?_⟩
      exact Eq.mpr (HPx.out _) HL6.out
  case done =>
    rintro D m zs W hD hDm hzs hI hK
    rw [hzs] at hI
    obtain ⟨v6, hv6, ho6⟩ := hI.re
    obtain ⟨a6, q6, rfl, hsl, _⟩ := sl_own (enc := encL) (fun _ => rfl) ho6
    have hc6 := hv6.cell
    have hlv := lvsP_len party A
    have hdel := delete_none 29 #[.pointer (some ⟨w.heap.size + 1 + 1, 0, none⟩)] (enters_of Tryd.func29 (by kernel_rfl) rfl) a6 q6 (lvsP party A) W hsl.g (fun W' x hx hb => dead_no x (by
      obtain ⟨z, hz, he⟩ := List.mem_filterMap.1 hx
      have h1 := HAw.out z hz
      unfold lvF at he
      split at he
      · cases he
      · cases he; exact h1) _ _ W' (hI.b5.after hb) (hI.mp.after hb)) (by omega)
    have HDel := Lib.hid hdel
    have HI := Lib.hid hI
    have HO6 := Lib.hid ho6
    have HK := Lib.hid hK
    clear hdel hI ho6 hv6 hsl hK
    go_wp2_with fail
    with_reducible refine HDel.out.mono ?_
    rintro e W2 ⟨rfl, hb2⟩
    have hK2 : W2.heap[D]? = some (.deferred (some [])) := (hb2.block D (Array.getElem?_eq_some_iff.1 HK.out).1).trans HK.out
    have HFin : Hid (OfEnd w party A (.returned (.slice a6 (lvsP party A).length q6)) (W2.putObj D (.deferred none))) := by
      have hput : ∀ (q : Nat) (cs : Array Value) (fr : Nat × Nat), W2.heap[q]? = some (.cells cs 62 fr) → (W2.putObj D (.deferred none)).heap[q]? = some (.cells cs 62 fr) := fun q cs fr hq => (World.putObj_heap_other (fun e => by rw [e, hK2] at hq; cases hq)).trans hq
      obtain ⟨a7, q7, e7, hsl7, _⟩ := sl_own (enc := encL) (fun _ => rfl) (own_block (own_after HO6.out hb2) hput)
      simp only [Value.slice.injEq, true_and] at e7
      obtain ⟨rfl, rfl⟩ := e7
      refine ⟨_, _, rfl, hsl7, ?_⟩
      have h1 : Below w.heap.size w W2 := (HB0.out.trans (HI.out.be.mono (Nat.le_refl _))).trans (hb2.mono (by have := HI.out.b2.lt; omega))
      exact h1.trans ((Turn.of_grown (grownBy_putObj' W2 D (.deferred none)) (List.mem_singleton.2 rfl)).below (by have := h1.size; omega) (fun b hb => by rw [List.mem_singleton.1 hb]; omega))
    have HK2 := Lib.hid hK2
    clear hK2 hb2 hc6
    go_wp2_with fail
    refine ⟨by simp, .inl ⟨_, _, rfl, run_takeDeferred HK2.out, ?_⟩⟩
    exact ⟨.slice a6 (lvsP party A).length q6, by simp [results, Tryd.results13, go_sem], HFin.out⟩
  case stop =>
    rintro D pre W _ _ h _
    exact h.elim

end Go.Proofs.YtmjgcenhgpkhiaaDoor
