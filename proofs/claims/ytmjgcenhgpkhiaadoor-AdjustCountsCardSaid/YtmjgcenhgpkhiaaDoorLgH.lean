/- Package ledger: All. -/
import Derived.Test.YtmjgcenhgpkhiaaDoorMgF
import Derived.Shelf.Abstract
import Derived.Shelf.RegionOpen
import Derived.OwnWalkIn
import Derived.TacticsInMore
import Derived.RegionIn
import Derived.LoopNIn
import Derived.LoopIn
namespace Go.Proofs.YtmjgcenhgpkhiaaDoor
open Go.RowKit Go.Sort Go.Shelf
set_option linter.unusedVariables false
set_option linter.unusedSimpArgs false
attribute [local go_sem] Oper.semAt_some

theorem below_grownL {w w' : World} (h : RowKit.Below w.heap.size w w') : w.grownBy w' none := ⟨h.os, h.tape, h.output, h.size, fun k hk _ => h.block k hk⟩
/-- A number, and an entry: what an iterator gives. -/
theorem wf_of {n : Int} (h1 : -9223372036854775808 ≤ n) (h2 : n ≤ 9223372036854775807) : (Lit.int .i64 n).wf = true := by
  simp [Lit.wf, IntKind.min, IntKind.max, IntKind.signed, IntKind.bits]
  exact ⟨h1, h2⟩
abbrev encIE (z : Int × En) : Array Value := #[.int .i64 z.1, entV z.2.s z.2.a z.2.ls.length z.2.cap]
structure FactIE (n₀ : Nat) (z : Int × En) (W : World) : Prop where
  ok : EnOk W z.2
  wf : (Lit.int .i64 z.1).wf = true
  new : ∀ y, z.2.a = some y → n₀ ≤ y.block
  ty : TyLn W z.2.a
theorem FactIE.own (B n₀ : Nat) (z : Int × En) : OwnFrom B (fun (_ : Unit) W => FactIE n₀ z W) := fun s W W' row h hg hr =>
  ⟨⟨fun hl => by
    obtain ⟨b, o, e, hc⟩ := h.ok.ln hl
    have hne : row ≠ some b := fun e1 => by
      obtain ⟨_, ob, h1, h2⟩ := hr b e1
      have h0 := (hc 0 hl).1
      unfold World.cell? at h0
      rw [h1] at h0
      cases ob <;> simp_all [Obj.isCells]
    exact ⟨b, o, e, fun i hi => ⟨grown_cell hg (hc i hi).1 hne, grown_cell hg (hc i hi).2.1 hne, grown_cell hg (hc i hi).2.2 hne⟩⟩, h.ok.wf, h.ok.few, h.ok.nil⟩, h.wf, h.new, h.ty.grown hg (fun x e e1 => by
    obtain ⟨cs, fr, hb⟩ := h.ty x e
    obtain ⟨_, ob, h1, h2⟩ := hr _ e1
    rw [hb] at h1
    cases h1
    cases h2)⟩
theorem FactIE.after {n₀ : Nat} {z : Int × En} {W W' : World} (h : FactIE n₀ z W) (hb : RowKit.Below W.heap.size W W') : FactIE n₀ z W' := ⟨h.ok.after hb, h.wf, h.new, h.ty.after hb⟩
def prI (z : Int × En) : Int × EnP := (z.1, z.2.p)
def idxP (L : List EnP) : List (Int × EnP) := L.zipIdx.map fun p => ((p.2 : Int), p.1)
theorem idxP_len (L : List EnP) : (idxP L).length = L.length := by simp [idxP]
theorem idxP_get {L : List EnP} {j : Nat} {x : EnP} (h : L[j]? = some x) : (idxP L)[j]? = some ((j : Int), x) := by
  obtain ⟨hj, he⟩ := List.getElem?_eq_some_iff.1 h
  unfold idxP
  rw [List.getElem?_map, List.getElem?_eq_getElem (by simpa using hj)]
  simp [he]
theorem idxP_take {L : List EnP} {j : Nat} {x : EnP} (h : L[j]? = some x) : (idxP L).take (j + 1) = (idxP L).take j ++ [((j : Int), x)] := by
  have hj := (List.getElem?_eq_some_iff.1 (idxP_get h)).1
  rw [List.take_succ_eq_append_getElem hj, (List.getElem?_eq_some_iff.1 (idxP_get h)).2]
/-- The iterator's captured ledger, as long as the world is as it should be. -/
def AllIn (R : World → Prop) (Bc : Nat) (E : List En) : Prop :=
  ∃ pv, ∀ W, R W → Blk W Bc #[pv] 49 ∧ (Calls Tryd.prog 18 #[pv] W fun e w' => e = .returned (.int .i64 (E.length : Int)) ∧ w' = W) ∧ ∀ (j : Nat) (x : En), E[j]? = some x → Calls Tryd.prog 36 #[pv, .int .i64 (j : Int)] W (EntEnd W x.p)
set_option maxRecDepth 100000 in
set_option maxHeartbeats 4000000 in
theorem all_tells (n : Nat) (hn : 1 ≤ n) (n₀ Bc : Nat) (E : List En) (hl : E.length ≤ 1000000) (w0 : World) (Kp : Nat → Nat → World → World → Prop) (R : World → Prop) (hR0 : ∀ W, RowKit.Below w0.heap.size w0 W → R W) (hRb : ∀ A B, R A → RowKit.Below A.heap.size A B → R B) (hRk : ∀ lo m A B, w0.heap.size ≤ m → R A → Kp lo m A B → R B) (h0 : AllIn R Bc E) (hRn : ∀ W, R W → n₀ ≤ W.heap.size) :
    SeqTells Fence.wide n Tryd.prog 60 #[.pointer (some ⟨Bc, 0, none⟩)] encIE (FactIE n₀) Kp (fun xs => xs.map prI = idxP (E.map En.p)) (fun pre => ∃ j, pre.map prI = (idxP (E.map En.p)).take j) E.length w0 := fun l J Jx W hW hJ hJx hY hJ0 => by
  obtain ⟨pv, hA⟩ := h0
  have HA := Lib.hid hA
  have hRW := hR0 W hW
  have HLn := Lib.hid (HA.out W hRW).2.1
  have c0 : W.cell? ⟨Bc, 0, none⟩ = some pv := (HA.out W hRW).1.cell 0 rfl
  have HJ0 := Lib.hid (hJ0 W.heap.size W (RowKit.Below.refl _ _) (Nat.le_refl _) (Nat.le_refl _))
  have HRW := Lib.hid hRW
  clear hA hRW
  refine callsIn_of_wp Tryd.func60 rfl trivial ?_ rfl
  simp only [Tryd.ntmps60, List.size_toArray, List.length_cons, List.length_nil, Nat.reduceAdd, Nat.reduceSub, Array.replicate_succ, Array.replicate_zero, List.push_toArray, List.append_toArray, List.nil_append, List.cons_append]
  gi_wp2_with fail
  refine ⟨trivial, ?_⟩
  with_reducible refine (callsIn_wide.2 HLn.out).mono ?_
  rintro e w1 ⟨rfl, hw1⟩
  obtain rfl : W = w1 := hw1.symm
  gi_wp2_with fail
  gi_loopw [8] (fun c wr => ∃ j : Nat, j ≤ E.length ∧ c = .int .i64 (j : Int) ∧ (∃ xs : List (Int × En), xs.map prI = (idxP (E.map En.p)).take j ∧ J W.heap.size xs wr) ∧ Hid (R wr)) (fun c _ => E.length - (intOf c).toNat)
  case atStart => exact ⟨0, by omega, rfl, ⟨[], rfl, HJ0.out⟩, HRW⟩
  case round =>
    obtain ⟨j, hj, rfl, ⟨xs, hxs, hJk⟩, HR⟩ := hrel
    have zk' : n₀ ≤ wr.heap.size := hRn wr HR.out
    clear c0
    by_cases hlt : j < E.length
    · obtain ⟨x, hx⟩ : ∃ x, E[j]? = some x := ⟨_, List.getElem?_eq_getElem hlt⟩
      have hTk := idxP_take (L := E.map En.p) (j := j) (x := x.p) (by rw [List.getElem?_map, hx]; rfl)
      have hxl : xs.length = j := by
        have := congrArg List.length hxs
        rw [List.length_map, List.length_take, idxP_len, List.length_map] at this
        omega
      have c1 : wr.cell? ⟨Bc, 0, none⟩ = some pv := (HA.out wr HR.out).1.cell 0 rfl
      have HE := Lib.hid ((HA.out wr HR.out).2.2 j x hx)
      have HTk := Lib.hid hTk
      have HXs := Lib.hid hxs
      clear hTk hxs hx
      gi_wp2_with fail
      refine ⟨trivial, ?_⟩
      with_reducible refine (callsIn_wide.2 HE.out).mono ?_
      rintro e w2 ⟨c, cc, rfl, hok, hb2, hcn, hty⟩
      obtain ⟨⟨con, day, cur, seq, per, ref⟩, xa, xcap, ls⟩ := x
      dsimp only [En.p, entV] at hok ⊢
      obtain ⟨w3, hw3⟩ : ∃ W, w2.alloc (.cells (entCs ⟨con, day, cur, seq, per, ref⟩ c ls.length cc) 26) = W := ⟨_, rfl⟩
      have hb3 : RowKit.Below w2.heap.size w2 w3 := by rw [← hw3]; exact (RowKit.Below.refl _ _).alloc (Nat.le_refl _) _
      have k3 : Blk w3 w2.heap.size (entCs ⟨con, day, cur, seq, per, ref⟩ c ls.length cc) 26 := by rw [← hw3]; exact Blk.new _ _ _
      have hB3 : RowKit.Below wr.heap.size wr w3 := hb2.trans (hb3.mono hb2.size)
      have hJ3 : J W.heap.size xs w3 := hJ _ _ wr _ none hJk (below_grownL hB3) (by rintro r ⟨⟩)
      have hFa : FactIE n₀ ((j : Int), ⟨⟨con, day, cur, seq, per, ref⟩, c, cc, ls⟩) w3 := ⟨hok.after hb3, wf_of (by simp only; omega) (by simp only; omega), fun y e => by have := hcn y e; omega, hty.after hb3⟩
      obtain ⟨fn, tmps, assign, body, hy, hR3⟩ := hY _ _ ((j : Int), ⟨⟨con, day, cur, seq, per, ref⟩, c, cc, ls⟩) _ (Nat.le_refl _) hJ3 hFa (by omega)
      dsimp only [encIE, entV] at hy
      have q0 : w3.cell? ⟨w2.heap.size, 0, none⟩ = some (.int .i64 con) := k3.cell 0 rfl
      have q1 : w3.cell? ⟨w2.heap.size, 1, none⟩ = some (.int .i64 day) := k3.cell 1 rfl
      have q2 : w3.cell? ⟨w2.heap.size, 2, none⟩ = some (.int .i64 cur) := k3.cell 2 rfl
      have q3 : w3.cell? ⟨w2.heap.size, 3, none⟩ = some (.int .i64 seq) := k3.cell 3 rfl
      have q4 : w3.cell? ⟨w2.heap.size, 4, none⟩ = some (.int .i64 per) := k3.cell 4 rfl
      have q5 : w3.cell? ⟨w2.heap.size, 5, none⟩ = some (.int .i64 ref) := k3.cell 5 rfl
      have q6 : w3.cell? ⟨w2.heap.size, 6, none⟩ = some (.slice c ls.length cc) := k3.cell 6 rfl
      have HBk : Hid (R w3) := hRb _ _ HR.out hB3
      have HW3 := Lib.hid hw3
      clear hw3 hok hb2 hcn hb3 k3 hB3 hJ3 hFa hJk HR HE
      gi_wp2_with fail
      have hw3 := HW3.out
      unfold entCs at hw3
      rw [hw3]
      clear hw3 HW3
      rw [hy, Oper.uponIn_round]
      refine ⟨fun _ => hn, hR3.mono ?_⟩
      have hsnoc : (xs ++ [((j : Int), (⟨⟨con, day, cur, seq, per, ref⟩, c, cc, ls⟩ : En))]).map prI = (idxP (E.map En.p)).take (j + 1) := by rw [List.map_append, HXs.out, HTk.out]; rfl
      have HSn := Lib.hid hsnoc
      clear hsnoc hR3
      rintro e w4 (⟨rfl, hJ4, hk4, _⟩ | ⟨rfl, hJx4, _⟩)
      · have HB4 : Hid (R w4) := hRk _ _ _ _ hW.size HBk.out hk4
        gi_wp2_with fail
        go_roundw
        case rel => exact ⟨j + 1, by omega, by go_num, ⟨_, HSn.out, hJ4⟩, HB4⟩
        case measure => simp [intOf]; omega
      · gi_wp2_with fail
        refine bodyPost_ret (results_none rfl _ _ _) rfl ?_
        exact ⟨⟨_, rfl⟩, .inr ⟨_, ⟨j + 1, HSn.out⟩, hJx4⟩⟩
    · obtain rfl : j = E.length := by omega
      rw [List.take_of_length_le (by rw [idxP_len, List.length_map]; exact Nat.le_refl _)] at hxs
      gi_wp2_with fail
      go_end0
      exact ⟨⟨_, rfl⟩, .inl ⟨_, xs, hxs, hJk⟩⟩

def SeqAEnd (w : World) (E : List En) (e : Ending) (w' : World) : Prop :=
  ∃ Bc pv, e = .returned (.func (.func 60) #[] #[.pointer (some ⟨Bc, 0, none⟩)]) ∧ Blk w' Bc #[pv] 49 ∧ RowKit.Below w.heap.size w w' ∧ w.heap.size ≤ Bc ∧
    ((pv = .pointer none ∧ E = []) ∨ ∃ p1 bm1 a1 c1, pv = .pointer (some ⟨p1, 0, none⟩) ∧ LgAt w' p1 bm1 a1 c1 E ∧ w.heap.size ≤ p1 ∧ w.heap.size ≤ bm1 ∧ ∀ x, a1 = some x → w.heap.size ≤ x.block)
theorem lall_ok (p bm : Nat) (a : Option Addr) (cap : Nat) (E : List En) (w : World) (h : LgAt w p bm a cap E) (hl : E.length ≤ 1000000) :
    Calls Tryd.prog 45 #[.pointer (some ⟨p, 0, none⟩)] w (SeqAEnd w E) := by
  have HC := Lib.hid (lcopy_ok p bm a cap E w h hl)
  clear h
  go_enter Tryd.func45, Tryd.ntmps45
  go_wp2_with fail
  with_reducible refine HC.out.mono ?_
  rintro e w1 ⟨p1, bm1, a1, c1, rfl, hL1, ho1, hb1, hp1, hbm1⟩
  obtain ⟨w2, hw2⟩ : ∃ W, w1.alloc (.cells #[.pointer (some ⟨p1, 0, none⟩)] 49) = W := ⟨_, rfl⟩
  have hb2 : RowKit.Below w1.heap.size w1 w2 := by rw [← hw2]; exact (RowKit.Below.refl _ _).alloc (Nat.le_refl _) _
  have k2 : Blk w2 w1.heap.size #[.pointer (some ⟨p1, 0, none⟩)] 49 := by rw [← hw2]; exact Blk.new _ _ _
  have hF : Hid (SeqAEnd w E (.returned (.func (.func 60) #[] #[.pointer (some ⟨w1.heap.size, 0, none⟩)])) w2) :=
    ⟨w1.heap.size, _, rfl, k2, hb1.trans (hb2.mono hb1.size), hb1.size, .inr ⟨p1, bm1, a1, c1, rfl, hL1.after hb2, hp1, hbm1, fun x e => by
      subst e
      exact (own_cells ho1 (g := x.block) (by rcases ho1.2 with ⟨e1, _⟩ | ⟨g, cap, cur, e1, _⟩ <;> cases e1; rfl)).1⟩⟩
  have HW2 := Lib.hid hw2
  clear hw2 hb2 k2 hL1 hb1 ho1
  go_wp2_with fail
  go_ret
  have hw := HW2.out
  subst hw
  exact hF.out
theorem lall_nil (w : World) : Calls Tryd.prog 45 #[.pointer none] w (SeqAEnd w []) := by
  go_enter Tryd.func45, Tryd.ntmps45
  go_wp2_with fail
  with_reducible refine (lcopy_nil w).mono ?_
  rintro e w1 ⟨rfl, hw1⟩
  obtain rfl : w = w1 := hw1.symm
  obtain ⟨w2, hw2⟩ : ∃ W, w.alloc (.cells #[.pointer none] 49) = W := ⟨_, rfl⟩
  have hb2 : RowKit.Below w.heap.size w w2 := by rw [← hw2]; exact (RowKit.Below.refl _ _).alloc (Nat.le_refl _) _
  have k2 : Blk w2 w.heap.size #[.pointer none] 49 := by rw [← hw2]; exact Blk.new _ _ _
  have hF : Hid (SeqAEnd w [] (.returned (.func (.func 60) #[] #[.pointer (some ⟨w.heap.size, 0, none⟩)])) w2) :=
    ⟨w.heap.size, _, rfl, k2, hb2, Nat.le_refl _, .inl ⟨rfl, rfl⟩⟩
  have HW2 := Lib.hid hw2
  clear hw2 hb2 k2
  go_wp2_with fail
  go_ret
  have hw := HW2.out
  subst hw
  exact hF.out

/-- A ledger whose blocks lie between two marks (and the lines of whose entries lie below a third one) stays what it is. -/
theorem LgAt.between {A B : World} {n₀ lo hi p bm : Nat} {a : Option Addr} {cap : Nat} {E : List En} (h : LgAt A p bm a cap E) (hk : Kept n₀ lo hi A B) (h1 : lo ≤ p ∧ p < hi) (h2 : lo ≤ bm ∧ bm < hi) (h3 : ∀ x, a = some x → lo ≤ x.block ∧ x.block < hi) (h4 : ∀ e ∈ E, ∀ x, e.a = some x → 0 < e.ls.length → x.block < n₀) : LgAt B p bm a cap E := by
  refine ⟨hk.mid p _ h1.1 h1.2 h.blk (.inl ⟨_, _, _, rfl⟩), ⟨fun hl => ?_, h.sl.le, h.sl.max, h.sl.sh.imp id fun ⟨b, o, e, hlt⟩ => ⟨b, o, e, ?_⟩⟩, fun e he => ⟨fun hl => ?_, (h.ok e he).wf, (h.ok e he).few, (h.ok e he).nil⟩, by
    obtain ⟨es, cl, he, hr⟩ := h.map
    exact ⟨es, cl, hk.mid bm _ h2.1 h2.2 he (.inr ⟨_, _, rfl⟩), hr⟩⟩
  · obtain ⟨b, o, e, hc⟩ := h.sl.recs hl
    have hb := h3 _ e
    have h0 : A.cell? ⟨b, o + 0 * 7 + 0, none⟩ = some (.int .i64 (E.getD 0 default).s.con) := hc 0 hl 0 _ rfl
    obtain ⟨ob, h1, h2⟩ : ∃ ob, A.heap[b]? = some ob ∧ Plain ob := by
      unfold World.cell? at h0
      cases hh : A.heap[b]? with
      | none => simp [hh] at h0
      | some ob =>
        refine ⟨ob, rfl, ?_⟩
        cases ob <;> first | exact .inl ⟨_, _, _, rfl⟩ | (simp [hh] at h0)
    have hkk : B.heap[b]? = A.heap[b]? := (hk.mid b ob hb.1 hb.2 h1 h2).trans h1.symm
    exact ⟨b, o, e, fun i hi j v hv => (World.cell?_of_block (a := ⟨b, o + i * 7 + j, none⟩) hkk).trans (hc i hi j v hv)⟩
  · obtain ⟨b, o, e1, hc⟩ := (h.ok e he).ln hl
    have hb : b < n₀ := h4 e he _ e1 hl
    have hkk := hk.be.block b hb
    exact ⟨b, o, e1, fun i hi => ⟨(World.cell?_of_block hkk).trans (hc i hi).1, (World.cell?_of_block hkk).trans (hc i hi).2.1, (World.cell?_of_block hkk).trans (hc i hi).2.2⟩⟩
  · exact Nat.lt_of_lt_of_le hlt hk.be.size
/-- All's iterator, called by one who keeps all that was there. -/
theorem SeqAEnd.tells {w w' : World} {E : List En} {e : Ending} (h : SeqAEnd w E e w') (hl : E.length ≤ 1000000) : ∃ Bc, e = .returned (.func (.func 60) #[] #[.pointer (some ⟨Bc, 0, none⟩)]) ∧ RowKit.Below w.heap.size w w' ∧
    ∀ w0 n, 1 ≤ n → RowKit.Below w'.heap.size w' w0 → SeqTells Fence.wide n Tryd.prog 60 #[.pointer (some ⟨Bc, 0, none⟩)] encIE (FactIE w'.heap.size) (Kept w'.heap.size) (fun xs => xs.map prI = idxP (E.map En.p)) (fun pre => ∃ j, pre.map prI = (idxP (E.map En.p)).take j) E.length w0 := by
  obtain ⟨Bc, pv, rfl, hk, hb, _, hx⟩ := h
  refine ⟨Bc, rfl, hb, fun w0 n hn hw0 => all_tells n hn w'.heap.size Bc E hl w0 _ (fun W => RowKit.Below w'.heap.size w' W) (fun W hW => hw0.trans (hW.mono hw0.size)) (fun A B hA hB => hA.trans (hB.mono hA.size)) (fun lo m A B _ hA hB => hA.trans hB.be) ⟨pv, fun W hW => ?_⟩ (fun W hW => hW.size)⟩
  rcases hx with ⟨rfl, rfl⟩ | ⟨p1, bm1, a1, c1, rfl, hL, _⟩
  · exact ⟨hk.after hW, llen_nil W, fun j x hj => by simp at hj⟩
  · exact ⟨hk.after hW, llen_ok p1 bm1 a1 c1 E W (hL.after hW), fun j x hx => lent_in p1 bm1 a1 c1 E W (hL.after hW) hl j x hx⟩

end Go.Proofs.YtmjgcenhgpkhiaaDoor
