/- Package adjust: the keys of a map of places, sorted. -/
import Derived.Test.YtmjgcenhgpkhiaaDoorMgJ
import Derived.Test.YtmjgcenhgpkhiaaDoorAdSh
import Derived.Test.YtmjgcenhgpkhiaaDoorMgD
import Derived.Test.YtmjgcenhgpkhiaaDoorMgF
import Derived.Sort.MapsRangeIn
import Derived.Shelf.Abstract
import Derived.Shelf.RegionOpen
import Derived.OwnWalkIn
import Derived.TacticsInMore
import Derived.RegionIn
import Derived.LoopNIn
import Derived.LoopIn
import Derived.RangeFuncNested
import Derived.RangeFuncBound
import Derived.RangeFuncCalls
import Derived.RangeFuncLeaves
import Derived.RangeFuncBox
namespace Go.Proofs.YtmjgcenhgpkhiaaDoor
open Go.RowKit Go.Sort Go.Shelf
set_option linter.unusedVariables false
set_option linter.unusedSimpArgs false
attribute [local go_sem] Oper.semAt_some

theorem keyP : KeyLike Tryd.prog 91 OkPl := KeyLike.struct Tryd.underlying91
  (fun w em v h => by obtain ⟨p, rfl⟩ := h; unfold plV; cases em <;> kernel_rfl)
  (fun w x y hx hy => by
    obtain ⟨p, rfl⟩ := hx
    obtain ⟨q, rfl⟩ := hy
    refine ⟨decide ([p.1, p.2] = [q.1, q.2]), eq_struct w Tryd.underlying91 (by kernel_rfl) (by kernel_rfl) [p.1, p.2] [q.1, q.2] rfl rfl, ?_⟩
    rw [decide_eq_true_iff]
    unfold plV
    simp)
  (fun v h => by obtain ⟨p, rfl⟩ := h; simp [plV, Instr.sameBits])

section
variable {F : Fence} {n : Nat} {P : Program} {k e : TypeId} {ok : Value → Prop} {ops : Array Oper} {Q : Exit → Act → World → Prop} {a : Act} {w : World} {rest : List Oper} {o : Oper} {B : Nat} {M : List (Value × Value)}
theorem wpListIn_maprange (hg : o.guard = none) (m : Operand) (t : TypeId) (hop : o.op = Op.range t m) (ht : P.underlying t = some (.map k e)) (hm : a.eval m = .map (some B)) (h : MapAt ok w B M)
    (hK : ∀ w', IterAt ok w' B w.heap.size M M → RowKit.Below w.heap.size w w' → w'.heap.size = w.heap.size + 1 → wpListIn F n P ops Q rest (a.put o.dst (.pointer (some ⟨w.heap.size, 0, none⟩))) w') : wpListIn F n P ops Q (o :: rest) a w := by
  refine wpListIn_plain hg fun K' hK' => ?_
  obtain ⟨w', hrun, r1, r2, r3⟩ := h.range (P := P) ht
  unfold Oper.wpIn
  refine ⟨?_, ?_⟩
  · simp [Oper.about, hop]
  · rw [Oper.semAt_plain F _ _ (by rw [hop]; intro c hc'; cases hc')]
    simp [execOp, hop, hm, hrun, Result.andThen]
    exact hK' _ _ (hK w' r1 r2 r3)
theorem wpListIn_mapnext (hg : o.guard = none) (it : Operand) (hop : o.op = Op.next it false) (r : Nat) (left : List (Value × Value)) (hit : a.eval it = .pointer (some ⟨r, 0, none⟩)) (h : IterAt ok w B r M left)
    (hDone : left = [] → wpListIn F n P ops Q rest (a.put o.dst (.tuple #[.bool false])) w)
    (hMore : ∀ (x v : Value) (lf : List (Value × Value)) (w' : World), left.Perm ((x, v) :: lf) → IterAt ok w' B r M lf → w.grownBy w' (some r) → w'.heap.size = w.heap.size →
      (∀ w2, w2.heap[B]? = w'.heap[B]? → w2.heap[r]? = w'.heap[r]? → (Instr.entry (.pointer (some ⟨r, 0, none⟩))).run P w2 = .ok (.tuple #[x, v]) w2) → wpListIn F n P ops Q rest (a.put o.dst (.tuple #[.bool true, x, v])) w') :
    wpListIn F n P ops Q (o :: rest) a w := by
  refine wpListIn_plain hg fun K' hK' => ?_
  unfold Oper.wpIn
  refine ⟨?_, ?_⟩
  · simp [Oper.about, hop]
  · rw [Oper.semAt_plain F _ _ (by rw [hop]; intro c hc'; cases hc')]
    rcases h.next (P := P) o.type with ⟨hl, hrun⟩ | ⟨x, v, lf, w', h1, hrun, h2, h3, h4, h5⟩
    · simp [execOp, hop, hit, hrun, Result.andThen]
      exact hK' _ _ (hDone hl)
    · simp [execOp, hop, hit, hrun, Result.andThen]
      exact hK' _ _ (hMore x v lf w' h1 h2 h3 h4 h5)
theorem IterAt.walks {w w' : World} {B r : Nat} {m left : List (Value × Value)} (h : IterAt ok w B r m left) (hk : KeepsWalks w w') : IterAt ok w' B r m left := by
  obtain ⟨es, clock, since, seen, c0, hb, he, hr, rest⟩ := h
  exact ⟨es, clock, since, seen, c0, hk.same B _ hb rfl, he, hk.same r _ hr rfl, rest⟩
theorem IterAt.isW {w : World} {B r : Nat} {m left : List (Value × Value)} (h : IterAt ok w B r m left) : ∃ o : Obj, w.heap[r]? = some o ∧ o.isWalk = true := by
  obtain ⟨es, clock, since, seen, c0, hb, he, hr, rest⟩ := h
  exact ⟨_, hr, rfl⟩
theorem IterAt.left_len {w : World} {B r : Nat} {m left : List (Value × Value)} (h : IterAt ok w B r m left) : w.rangeLeft B r = left.length := by
  obtain ⟨es, clock, since, seen, c0, hb, he, hr, ho, hl, rest⟩ := h
  unfold World.rangeLeft
  rw [hb, hr]
  have := hl.length_eq
  simpa using this
end

abbrev encVP (k : KD) : Array Value := #[.agg (encP k).toArray]
/-- What is still to come, and what came: all keys. -/
def KeysLeft (ks pre : List KD) (left : List (Value × Value)) : Prop := ∃ rest : List KD, (left.map (·.1)).Perm (rest.map plV) ∧ (pre ++ rest).Perm ks
theorem KeysLeft.done {ks pre : List KD} (h : KeysLeft ks pre []) : pre.Perm ks := by
  obtain ⟨rest, h1, h2⟩ := h
  have : rest = [] := by
    have := h1.length_eq
    exact List.length_eq_zero_iff.1 (by simpa using this.symm)
  subst this
  simpa using h2
theorem KeysLeft.step {ks pre : List KD} {left lf : List (Value × Value)} {x v : Value} (h : KeysLeft ks pre left) (hp : left.Perm ((x, v) :: lf)) : ∃ k : KD, x = plV k ∧ KeysLeft ks (pre ++ [k]) lf ∧ pre.length < ks.length := by
  obtain ⟨rest, h1, h2⟩ := h
  have h3 : (x :: lf.map (·.1)).Perm (rest.map plV) := by have := (hp.map (fun p : Value × Value => p.1)).symm.trans h1; simpa using this
  obtain ⟨k, hk, rfl⟩ := List.mem_map.1 (h3.mem_iff.1 (List.mem_cons_self ..))
  have h4 : rest.Perm (k :: rest.erase k) := List.perm_cons_erase hk
  refine ⟨k, rfl, ⟨rest.erase k, ?_, ?_⟩, ?_⟩
  · have h5 : (plV k :: lf.map (·.1)).Perm (plV k :: (rest.erase k).map plV) := h3.trans (by have := h4.map plV; simpa using this)
    exact List.Perm.cons_inv h5
  · rw [List.append_assoc, List.singleton_append]
    exact (h4.symm.append_left pre).trans h2
  · have := h2.length_eq
    have := List.length_pos_of_mem hk
    simp at *
    omega
set_option maxRecDepth 100000 in
set_option maxHeartbeats 2000000 in
theorem keysC_stops (m : Nat) (hn : 1 ≤ m) (Bm b : Nat) (M : List (Value × Value)) (ks : List KD) (hks : M.map (·.1) = ks.map plV) (w0 : World) (hBm : Blk w0 Bm #[.map (some b)] 89) (hM : MapAt OkPl w0 b M) :
    SeqStopsK Fence.wide m Tryd.prog 68 #[.pointer (some ⟨Bm, 0, none⟩)] encVP KeepsWalks (fun xs => xs.Perm ks) (fun pre => True) ks.length w0 := fun l J Jx W hW hJ hJx hY hJ0 => by
  have q1 : W.cell? ⟨Bm, 0, none⟩ = some (.map (some b)) := (hBm.after hW).cell 0 rfl
  have hMW := hM.after hW
  refine callsIn_of_wp Tryd.func68 rfl trivial ?_ rfl
  simp only [Tryd.ntmps68, List.size_toArray, List.length_cons, List.length_nil, Nat.reduceAdd, Nat.reduceSub, Array.replicate_succ, Array.replicate_zero, List.push_toArray, List.append_toArray, List.nil_append, List.cons_append]
  gi_wp2_with (first
    | (gi_at_range; refine wpListIn_maprange (ok := OkPl) rfl _ 89 rfl Tryd.underlying89 rfl hMW ?_; intro w1 hit1 hb1 hs1)
    | gi_in)
  have hJ1 : J [] w1 := hJ _ W _ none hJ0 (below_grownN hb1) (by rintro r ⟨⟩)
  have HW := Lib.hid hb1.size
  clear q1 hMW hBm hM hs1 hb1
  go_frame
  gi_loopw [6] (fun _ wr => ∃ pre left, Hid (IterAt OkPl wr b W.heap.size M left ∧ KeysLeft ks pre left) ∧ J pre wr) (fun _ wr => wr.rangeLeft b W.heap.size)
  case atStart => exact ⟨[], M, ⟨hit1, ks, by rw [hks], List.Perm.refl _⟩, hJ1⟩
  case round =>
    obtain ⟨pre, left, HQ, hJs⟩ := hrel
    gi_wp2_with (first
      | (gi_at_next; refine wpListIn_mapnext rfl _ rfl W.heap.size left rfl HQ.out.1 ?_ ?_)
      | gi_in)
    · intro hl0
      gi_wp2_with fail
      go_end0
      have hd := HQ.out.2
      rw [hl0] at hd
      exact ⟨⟨_, rfl⟩, .inl ⟨pre, hd.done, hJs⟩⟩
    · intro x v lf w2 hp2 hit2 hg2 hs2 hen
      obtain ⟨kk, rfl, hKL, hlt⟩ := HQ.out.2.step hp2
      have hlen := hp2.length_eq
      have hiw := HQ.out.1.isW
      have hJ2 : J pre w2 := hJ pre wr w2 (some W.heap.size) hJs hg2 (fun r e => by cases e; exact ⟨Nat.le_refl _, hiw⟩)
      obtain ⟨k1, k2⟩ := kk
      have hb3 : RowKit.Below w2.heap.size w2 (w2.alloc (.cells #[.int .i64 k1, .int .i64 k2] 91)) := (RowKit.Below.refl _ _).alloc (Nat.le_refl _) _
      have hJ3 : J pre (w2.alloc (.cells #[.int .i64 k1, .int .i64 k2] 91)) := hJ _ w2 _ none hJ2 (below_grownN hb3) (by rintro r ⟨⟩)
      obtain ⟨fn, tmps, assign, body, hy, hR3⟩ := hY pre (k1, k2) _ hJ3 hlt
      dsimp only [encVP, encP] at hy hR3
      have hen2 := hen w2 rfl rfl
      dsimp only [plV] at hen2 ⊢
      have hit3 := hit2.after hb3
      have HIt3 := Lib.hid hit3
      have HKL := Lib.hid hKL
      have HLen := Lib.hid hlen
      clear hen hs2 hg2 hp2 hit2 hiw hJ2 hb3 hit3 hKL hlen
      gi_wp2_with fail
      refine hR3.mono ?_
      rintro e w4 (⟨rfl, hJ4, hk4⟩ | ⟨rfl, hJx4⟩)
      · have HIt4 := Lib.hid (HIt3.out.walks hk4)
        have HLl : Hid (w4.rangeLeft b W.heap.size < wr.rangeLeft b W.heap.size) := by
          show _ < _
          rw [HIt4.out.left_len, HQ.out.1.left_len, HLen.out]
          simp
        clear hk4
        gi_wp2_with fail
        go_roundw
        case rel => exact ⟨pre ++ [(k1, k2)], lf, ⟨HIt4.out, HKL.out⟩, hJ4⟩
        case measure => exact HLl.out
      · gi_wp2_with fail
        refine bodyPost_ret (results_none rfl _ _ _) rfl ?_
        exact ⟨⟨_, rfl⟩, .inr ⟨_, trivial, hJx4⟩⟩
theorem sortP_ok (g cap : Nat) (l : List KD) (w : World) (hH : HoldsK encP 2 w g 0 l.toArray) (hg : g < w.heap.size) (hl : l.length ≤ 100000) :
    Calls Tryd.prog 67 #[.slice (some ⟨g, 0, none⟩) l.length cap, .func (.func 55) #[] #[]] w fun e w' =>
      e = .returned (.tuple #[]) ∧ ∃ l', l'.Perm l ∧ l'.Pairwise (fun a b => ¬ ltK b a) ∧ RecsAt w' (some ⟨g, 0, none⟩) 2 encP l' ∧ w.grownBy w' (some g) := by
  have eg : ∀ args w, (callFunc 55 args).run Tryd.prog w = .ok (.enter 55 args) w := enters_of Tryd.func55 (by kernel_rfl) rfl
  have hc : CmpLays Tryd.prog 55 #[] encP 2 (fun x y => cmpKD x y) g 0 l.toArray.size w := fun _ _ _ _ x y => compare_ok x y _
  have hcon := AnyQ.slices_SortFunc Tryd.sortP 2 Tryd.isAgg91 Tryd.sizeOf91 encP (fun _ => rfl) encP_one (fun x y => cmpKD x y) (swoK (fun k : KD => k)) 55 #[] g 0 cap l.toArray w eg hc hH hg (by simp; omega)
  have hcon' : Calls Tryd.prog 67 #[.slice (some ⟨g, 0, none⟩) l.toArray.size cap, .func (.func 55) #[] #[]] w _ := hcon
  rw [List.size_toArray] at hcon'
  refine hcon'.mono ?_
  rintro e w' ⟨rfl, d', n, os, hp, hs, rfl⟩
  rw [← List.size_toArray] at hp hs
  have hsz : d'.size = l.toArray.size := hp.1
  refine ⟨rfl, d'.toList, by simpa using perm_in hp, ?_, recs_holds (fun _ => rfl) (holdsK_sortWorldK_c _ _ _ _ _ _ _ _ _ hH hg hsz), grown_sortedK⟩
  rw [← hsz] at hs
  refine List.Pairwise.imp (fun {a b} h => ?_) (sorted_in hs)
  unfold ltOf at h
  rw [cmpKD_lt] at h
  exact of_decide_eq_false h
theorem sortanyP (base : Nat) (v : Value) (l : List KD) (w : World) (ho : w.ownsRow base 91 2 v l.length (cellsL encP l)) (hl : l.length ≤ 100000) :
    Calls Tryd.prog 67 #[v, .func (.func 55) #[] #[]] w fun e w' =>
      e = .returned (.tuple #[]) ∧ ∃ a cap l', v = .slice a l.length cap ∧ l'.Perm l ∧ l'.Pairwise (fun a b => ¬ ltK b a) ∧ RecsAt w' a 2 encP l' ∧ RowKit.Below base w w' := by
  by_cases h0 : 0 < l.length
  · obtain ⟨g, cap, rfl, hb, hg, _, _, hH⟩ := holds_own (enc := encP) (size := 2) (fun _ => rfl) ho rfl h0
    refine (sortP_ok g cap l w hH hg hl).mono ?_
    rintro e w' ⟨rfl, l', h1, h2, h3, h4⟩
    exact ⟨rfl, _, cap, l', rfl, h1, h2, h3, (grown_below h4 hg).mono hb⟩
  · have hn : l.length = 0 := by omega
    obtain ⟨a, cap, rfl, _⟩ := owned_recs (enc := encP) (size := 2) (fun _ => rfl) ho rfl
    obtain rfl := List.length_eq_zero_iff.1 hn
    have hcon : Calls Tryd.prog 67 _ _ _ := AnyF.slices_SortFunc_none Tryd.sortP a cap (.func (.func 55) #[] #[]) w
    refine hcon.mono ?_
    rintro e w' ⟨rfl, rfl⟩
    exact ⟨rfl, a, cap, [], rfl, List.Perm.refl _, List.Pairwise.nil, RowsAt.nil _ _ _ _, RowKit.Below.refl _ _⟩

/-- What a new row of places is. -/
def RowP (w : World) (A : List KD) (e : Ending) (w' : World) : Prop := ∃ v xs, e = .returned v ∧ xs.Perm A ∧ w'.ownsRow w.heap.size 91 2 v xs.length (cellsL encP xs) ∧ RowKit.Below w.heap.size w w'
set_option maxRecDepth 100000 in
set_option maxHeartbeats 4000000 in
theorem appendseq_ok (gf : FuncId) (lb : Array Value) (hgf : ∀ args w, (callFunc gf args).run Tryd.prog w = .ok (.enter gf args) w) (A : List KD) (w : World) (h : ∀ (m : Nat) (w0 : World), 1 ≤ m → RowKit.Below w.heap.size w w0 → SeqStopsK Fence.wide m Tryd.prog gf lb encVP KeepsWalks (fun xs => xs.Perm A) (fun pre => True) A.length w0) (hl : A.length ≤ 100000) :
    Calls Tryd.prog 73 #[.slice none 0 0, .func (.func gf) #[] lb] w (RowP w A) := by
  obtain ⟨i0, hi, hi0, hi1, hi2⟩ := info_parts infoPl
  refine (callsIn_wide (n := 5)).1 ?_
  refine callsIn_of_wp_marks Tryd.func73 rfl trivial ?_ rfl
  simp only [Tryd.ntmps73, List.size_toArray, List.length_cons, List.length_nil, Nat.reduceAdd, Nat.reduceSub, Array.replicate_succ, Array.replicate_zero, List.push_toArray, List.append_toArray, List.nil_append, List.cons_append]
  refine wpIn_wide.2 ?_
  have HS := Lib.hid h
  clear h
  go_wp2_with fail
  obtain ⟨w0, hw0⟩ : ∃ w0, w.alloc (.cells #[.slice none 0 0] 93) = w0 := ⟨_, rfl⟩
  rw [hw0]
  have hb0 : Below w.heap.size w w0 := by rw [← hw0]; exact (Below.refl _ _).alloc (Nat.le_refl _) _
  have z0 : w0.heap.size = w.heap.size + 1 := by rw [← hw0]; simp
  have k4 : Boxed w0 w.heap.size 93 (.slice none 0 0) := by rw [← hw0]; exact Boxed.new _ _ _
  have HB0 := Lib.hid hb0
  clear hw0 hb0
  refine wpIn_wide (n := 5) |>.1 ?_
  refine wpIn_range_box rfl (by omega) (gf := gf) (lb := lb) rfl trivial hgf
    (HS.out _ w0 (by omega) HB0.out) walksK_t walksK_b (Below.refl _ _) (fun _ => rfl)
    (fun (pre : List KD) W => (∃ v, Boxed W w.heap.size 93 v ∧ W.ownsRow w.heap.size 91 2 v pre.length (cellsL encP pre) ∧ True) ∧ (Below w.heap.size w0 W ∧ w0.heap.size ≤ W.heap.size))
    (fun _ _ _ => False)
    (OwnFrom.and (Own.from (holdsRow_own w.heap.size w.heap.size 93 91 2 (fun (pre : List KD) => pre.length) (fun (pre : List KD) => cellsL encP pre) (fun pre v => True)) _) (OwnFrom.and (ownFrom_below (by omega) (by omega)) (fun s X Y row hs hg hr => Nat.le_trans hs hg.size)))
    (fun _ _ _ _ _ hs _ _ => hs)
    ⟨⟨_, k4, World.ownsRow_nil _ _ _ _, trivial⟩, Below.refl _ _, Nat.le_refl _⟩
    91 encP 5 w0.heap.size (fun pre W h => h.2.2) (fun pre W o h => KeepsWalks.alloc W o)
    ?assign ?body ?done ?stop
  case assign =>
    intro l pre x W K hI hK
    have hK' := Lib.hid hK
    clear hK hI
    obtain ⟨xd, xn⟩ := x
    dsimp only [encVP, encP] at hK' ⊢
    gi_wp2_with fail
    simpa [boxAct, encP] using hK'.out
  case body =>
    rintro l pre x Bx W hl' ⟨r, hr⟩ ⟨⟨v, hv, hrow, _⟩, hB, hz⟩ hBx hX hlt
    have hc := hv.cell
    have hf := hv.frozen
    have HBW := Lib.hid hB
    clear hB
    obtain ⟨xd, xn⟩ := x
    dsimp only [encP] at hX
    have x0 : W.cell? ⟨Bx, 0, none⟩ = some (.int .i64 xd) := hX.cell 0 rfl
    have x1 : W.cell? ⟨Bx, 1, none⟩ = some (.int .i64 xn) := hX.cell 1 rfl
    clear hX
    simp only [boxAct]
    gi_wp2_with (gi_at_builtin; refine wpListIn_append_own _ rfl _ _ 93 rfl w.heap.size 91 i0 _ 2 16 Tryd.underlying93 hi hi0 hi1 hi2 rfl (by decide) _ _ _ rfl (hrow.alloc _) ⟨W.heap.size, 0, none⟩ 1 1 [.int .i64 xd, .int .i64 xn] rfl rfl (World.news_of_block (cs := #[.int .i64 xd, .int .i64 xn]) (t := 91) (fr := (0, 0)) (heap_alloc_new W _)) (by simp [Value.oneCell']) (by unfold maxLen; omega) (by omega) (by simp; omega) ?_; intro v' w1' hown' hgrow _; obtain ⟨g', cap', rfl⟩ := ownsRow_succ hown'; obtain ⟨hv1, hv2, hr2, hko, hb2⟩ := hv.appended (by decide) hrow (by omega) (by omega) hown' hgrow; have hc1 := hv1.cell; have hf1 := hv1.frozen; have hzz := hgrow.size)
    refine ⟨hko.from _, hko.walks, ⟨⟨_, hv2, ?_, trivial⟩, HBW.out.trans hb2, ?_⟩⟩
    · rw [List.length_append, cellsL_snoc]
      exact hr2
    · simp [World.setCell] at hzz ⊢
      omega
  case done =>
    rintro D ys W hD hys ⟨⟨v, hv, hrow, _⟩, hB, hz⟩ hK
    have hc := hv.cell
    have HR := Lib.hid (ownsRow_putObj hrow (.deferred none) hK rfl)
    have HBd := Lib.hid hB
    clear hB
    go_wp2_with fail
    refine ⟨by simp, .inl ⟨_, _, rfl, run_takeDeferred hK, ?_⟩⟩
    refine ⟨_, results_tmp rfl _ _ _, _, ys, rfl, hys, ?_, (HB0.out.trans HBd.out).trans (belowK_b (w := w) (Nat.le_refl _) _ D _ _ (by omega) hK rfl rfl)⟩
    exact HR.out
  case stop =>
    rintro D c pre W _ _ h _
    exact h.elim

/-- What sorted places are. -/
def PlEnd (w : World) (A : List KD) (e : Ending) (w' : World) : Prop := ∃ a cap K, e = .returned (.slice a K.length cap) ∧ K.Perm A ∧ K.Pairwise ltK ∧ RecsAt w' a 2 encP K ∧ RowKit.Below w.heap.size w w' ∧ ∀ x, a = some x → w.heap.size ≤ x.block ∧ x.block < w'.heap.size
theorem strict_of {K : List KD} (h : K.Pairwise fun a b => ¬ ltK b a) (hn : K.Nodup) : K.Pairwise ltK := by
  have := List.Pairwise.and h hn
  exact this.imp fun {a b} ⟨h1, h2⟩ => ltK_total h1 (fun e => h2 e.symm)
set_option maxHeartbeats 2000000 in
set_option maxRecDepth 100000 in
theorem sorted_ok (gf : FuncId) (lb : Array Value) (hgf : ∀ args w, (callFunc gf args).run Tryd.prog w = .ok (.enter gf args) w) (A : List KD) (hA : A.Nodup) (w : World) (h : ∀ (m : Nat) (w0 : World), 1 ≤ m → RowKit.Below w.heap.size w w0 → SeqStopsK Fence.wide m Tryd.prog gf lb encVP KeepsWalks (fun xs => xs.Perm A) (fun pre => True) A.length w0) (hl : A.length ≤ 100000) :
    Calls Tryd.prog 56 #[.func (.func gf) #[] lb, .func (.func 55) #[] #[]] w (PlEnd w A) := by
  have HC : Hid (Calls Tryd.prog 66 #[.func (.func gf) #[] lb] w (RowP w A)) := by
    have HA := Lib.hid (appendseq_ok gf lb hgf A w h hl)
    clear h
    show Calls _ _ _ _ _
    go_enter Tryd.func66, Tryd.ntmps66
    go_wp2_with fail
    with_reducible refine HA.out.mono ?_
    rintro e w1 ⟨v, xs, rfl, h0, h1, h2⟩
    have H0 := Lib.hid h0
    have H1 := Lib.hid h1
    have H2 := Lib.hid h2
    clear h0 h1 h2
    go_wp2_with fail
    go_ret
    exact ⟨v, xs, rfl, H0.out, H1.out, H2.out⟩
  have HAn := Lib.hid hA
  clear h
  go_enter Tryd.func56, Tryd.ntmps56
  go_wp2_with fail
  with_reducible refine HC.out.mono ?_
  rintro e w1 ⟨v, xs, rfl, h0, h1, h2⟩
  have H0 := Lib.hid h0
  have H1 := Lib.hid h1
  have H2 := Lib.hid h2
  obtain ⟨a0, cap0, rfl, _, _, _, hax, _⟩ := owned_recs (enc := encP) (size := 2) (fun _ => rfl) h1 rfl
  have HA := Lib.hid hax
  have hxl : xs.length ≤ 100000 := by rw [h0.length_eq]; exact hl
  clear h0 h1 h2 hax
  go_wp2_with fail
  with_reducible refine (sortanyP w.heap.size _ xs w1 H1.out hxl).mono ?_
  rintro e w2 ⟨rfl, a, cap, l', hv, hp1, hs1, hR1, hb1⟩
  simp only [Value.slice.injEq, true_and] at hv
  obtain ⟨rfl, rfl⟩ := hv
  have HFin : Hid (PlEnd w A (.returned (.slice a0 xs.length cap0)) w2) := ⟨a0, cap0, l', by rw [hp1.length_eq], hp1.trans H0.out, strict_of hs1 ((hp1.trans H0.out).nodup_iff.2 HAn.out), hR1, H2.out.trans hb1, fun x e => by have := HA.out x e; have := hb1.size; omega⟩
  clear hp1 hs1 hR1 hb1
  go_wp2_with fail
  go_ret
  exact HFin.out
set_option maxHeartbeats 2000000 in
set_option maxRecDepth 100000 in
theorem sortedC_ok (b : Nat) (M : List (Value × Value)) (ks : List KD) (hks : M.map (·.1) = ks.map plV) (w : World) (hM : MapAt OkPl w b M) (hl : ks.length ≤ 100000) :
    Calls Tryd.prog 39 #[.map (some b)] w (PlEnd w ks) := by
  have hnd : ks.Nodup := by
    have := hM.nodup
    rw [hks] at this
    rw [List.Nodup, List.pairwise_map] at this
    exact this.imp fun h e => h (by rw [e])
  have HM := Lib.hid hM
  clear hM
  go_enter Tryd.func39, Tryd.ntmps39
  go_wp2_with fail
  refine Calls.mono (R := fun e w1 => e = .returned (.func (.func 68) #[] #[.pointer (some ⟨w.heap.size, 0, none⟩)]) ∧ w1 = w.alloc (.cells #[.map (some b)] 89)) ?_ ?_
  · go_enter Tryd.func57, Tryd.ntmps57
    go_wp2_with fail
    go_ret
    exact ⟨rfl, rfl⟩
  rintro e w1 ⟨rfl, hw1⟩
  have hb1 : RowKit.Below w.heap.size w w1 := by rw [hw1]; exact (RowKit.Below.refl _ _).alloc (Nat.le_refl _) _
  have kb : Blk w1 w.heap.size #[.map (some b)] 89 := by rw [hw1]; exact Blk.new _ _ _
  have HC := Lib.hid (sorted_ok 68 #[.pointer (some ⟨w.heap.size, 0, none⟩)] (enters_of Tryd.func68 (by kernel_rfl) rfl) ks hnd w1 (fun m w0 hm hb => keysC_stops m hm w.heap.size b M ks hks w0 (kb.after hb) ((HM.out.after hb1).after hb)) hl)
  have HB1 := Lib.hid hb1
  clear hw1 hb1 kb
  go_wp2_with fail
  with_reducible refine HC.out.mono ?_
  rintro e w2 ⟨a, cap, K, rfl, h1, h2, h3, h4, h5⟩
  have HFin : Hid (PlEnd w ks (.returned (.slice a K.length cap)) w2) := ⟨a, cap, K, rfl, h1, h2, h3, HB1.out.trans (h4.mono HB1.out.size), fun x e => by have := h5 x e; have := HB1.out.size; omega⟩
  clear h1 h2 h3 h4 h5
  go_wp2_with fail
  go_ret
  exact HFin.out

end Go.Proofs.YtmjgcenhgpkhiaaDoor
