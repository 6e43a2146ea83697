/- Package bitemp: Decode. -/
import Derived.Test.YtkloijkfaooodaaBitDa
import Derived.Test.YtkloijkfaooodaaRangeC
namespace Go.Proofs.Ytkloijkfaooodaa
open Go.RowKit Go.Sort Go.Shelf
set_option linter.unusedVariables false
set_option linter.unusedSimpArgs false
attribute [local go_sem] Oper.semAt_some

def chB (bs : List Int) (k : Nat) : List Int := (bs.drop (31 * k)).take 31
def VKd (bs : List Int) (k : Nat) : List Vs := runV [] ((List.range k).map fun i => decV (chB bs i))
def erK (bs : List Int) (k : Nat) : Int := if decB (chB bs k) = true then callE (VKd bs k) (decV (chB bs k)) else 13
theorem VKd_succ (bs : List Int) (k : Nat) : VKd bs (k + 1) = callV (VKd bs k) (decV (chB bs k)) := by
  unfold VKd
  rw [List.range_succ, List.map_append, List.map_singleton, runV_snoc]
theorem VKd_len (bs : List Int) (k : Nat) : (VKd bs k).length ≤ k := by
  have := runV_len [] ((List.range k).map fun i => decV (chB bs i))
  simpa [VKd] using this
theorem chB_len (bs : List Int) (m k : Nat) (h : bs.length = 31 * m) (hk : k < m) : (chB bs k).length = 31 := by
  unfold chB
  simp
  omega
theorem rdN_i64 {bs : List Int} (hB : IsB bs) : I64 (rdN bs) := by
  rcases List.eq_nil_or_concat bs with rfl | ⟨l, x, rfl⟩
  · exact ⟨by decide, by decide⟩
  · rw [List.concat_eq_append] at hB ⊢
    unfold rdN
    rw [List.foldl_append]
    have hx := hB x (by simp)
    show I64 (rdS _ x)
    rw [rdS_eq _ _ hx.1 hx.2]
    unfold I64 wrap64
    omega
theorem own_down' {w : World} {base base' size n : Nat} {e : TypeId} {v : Value} {cs : List Value} (h : w.ownsRow base e size v n cs) (hb : base' ≤ base) : w.ownsRow base' e size v n cs := own_down h hb
theorem PlAt.down {w : World} {base base' bm : Nat} {V : List Vs} {E : List (PK × Value)} (h : PlAt w base bm V E) (hb : base' ≤ base) : PlAt w base' bm V E := ⟨h.map, fun e he => ⟨(h.own e he).1, own_down (h.own e he).2 hb⟩, h.all⟩
theorem st_own {β : Type} (base p bm N : Nat) (V : β → List Vs) (hN : bm < N) : OwnFrom N (fun (pre : β) W => ∃ sv, StAt W base p bm sv (V pre)) := fun pre X Y row ⟨sv, hs⟩ hg hr => by
  refine ⟨sv, hs.turn (bs := row.toList) ⟨hg.os, hg.tape, hg.output, hg.size, fun k hk hn => hg.block k hk fun e => hn (by rw [← e]; simp)⟩ ?_ ?_ ?_ ?_⟩
  · intro hb
    obtain ⟨_, o, ho, hc⟩ := hr p (Option.mem_toList.1 hb)
    rw [show X.heap[p]? = _ from hs.blk] at ho
    cases ho
    cases hc
  · intro hb
    have := (hr bm (Option.mem_toList.1 hb)).1
    omega
  · intro g hg' hb
    obtain ⟨_, o, ho, hc⟩ := hr g (Option.mem_toList.1 hb)
    obtain ⟨_, _, cur, hcc⟩ := own_cells hs.own hg'
    rw [hcc] at ho
    cases ho
    cases hc
  · intro b hb cur hc
    obtain ⟨_, o, ho, hcc⟩ := hr b (Option.mem_toList.1 hb)
    rw [hc] at ho
    cases ho
    cases hcc
theorem keeps_st {W W' : World} {base p bm N : Nat} {sv : Value} {V : List Vs} (hs : StAt W base p bm sv V) (ht : Turn (StAt.bs p bm sv) W W') (hN : bm < N) : KeepsFrom N W W' := by
  refine ⟨ht.size, fun k o hB hk ho => ?_⟩
  have hlt : k < W.heap.size := (Array.getElem?_eq_some_iff.1 hk).1
  refine (ht.block k hlt fun hb => ?_).trans hk
  rcases hs.kinds k hb with ⟨cur, fr, h⟩ | ⟨es, c, h⟩ | ⟨cur, fr, h⟩
  · rw [h] at hk; cases hk; cases ho
  · have hb2 : k = bm := by
      unfold StAt.bs at hb
      rcases List.mem_cons.1 hb with rfl | hb
      · rw [show W.heap[k]? = _ from hs.blk] at h; cases h
      · rcases List.mem_cons.1 hb with e | hb
        · exact e
        · obtain ⟨_, _, cur, hcc⟩ := own_cells hs.own (Option.mem_toList.1 hb)
          rw [hcc] at h
          cases h
    omega
  · rw [h] at hk; cases hk; cases ho

theorem leave_ret2 {f : Func} {a : Act} {R : Ending → World → Prop} {w : World} {P : Program} (hd : a.defers = []) (h : ∃ v, (results f a.tmps).run P w = .ok v w ∧ R (.returned v) w) : bodyPostM Fence.wide 5 P f R .ret a w := by
  show LeavesInM Fence.wide 5 P f a.tmps R a.defers .returning w
  rw [hd]
  exact h
theorem chunk_call (a : Option Addr) (n cap : Nat) (w : World) : Calls Try.prog 42 #[.slice a n cap, .int .i64 31] w fun e w' => e = .returned (.func (.func 58) #[] #[.pointer (some ⟨w.heap.size, 0, none⟩), .pointer (some ⟨w.heap.size + 1, 0, none⟩)]) ∧ w' = (w.alloc (.cells #[.slice a n cap] 52)).alloc (.cells #[.int .i64 31] 3) := by
  go_enter Try.func42, Try.ntmps42
  go_wp2_with fail
  go_ret
  exact ⟨rfl, rfl⟩
theorem not_st {W : World} {base p bm B : Nat} {sv : Value} {V : List Vs} {cs : Array Value} {T : TypeId} (hs : StAt W base p bm sv V) (hB : Blk W B cs T) (h1 : T ≠ 83) (h2 : T ≠ 26) : B ∉ StAt.bs p bm sv := fun hb => by
  have hB' : W.heap[B]? = _ := hB
  rcases hs.kinds B hb with ⟨cur, fr, h⟩ | ⟨es, c, h⟩ | ⟨cur, fr, h⟩
  · rw [hB'] at h
    simp only [Option.some.injEq, Obj.cells.injEq] at h
    exact h1 h.2.1
  · rw [hB'] at h
    cases h
  · rw [hB'] at h
    simp only [Option.some.injEq, Obj.cells.injEq] at h
    exact h2 h.2.1
theorem ch_own {β : Type} (n₀ Bs : Nat) (v : Value) : Own (fun (s : β) W => ChAt W n₀ Bs v) := fun s X Y row hs hg hr =>
  ⟨blk_own (β := β) Bs (fun _ => #[v]) _ s X Y row hs.1 hg hr, blk_own (β := β) (Bs + 1) (fun _ => #[.int .i64 31]) _ s X Y row hs.2.1 hg hr, hs.2.2⟩
def VP (bs : List Int) {m : Nat} (pre : List (Fin m)) : List Vs := runV [] (pre.map fun i => decV (chB bs i.val))
def erP (bs : List Int) {m : Nat} (pre : List (Fin m)) (x : Fin m) : Int := if decB (chB bs x.val) = true then callE (VP bs pre) (decV (chB bs x.val)) else 13
def GoodP (bs : List Int) {m : Nat} (pre : List (Fin m)) : Prop := ∀ (q : List (Fin m)) (x : Fin m) (t : List (Fin m)), pre = q ++ x :: t → erP bs q x = 0
theorem GoodP.nil (bs : List Int) {m : Nat} : GoodP bs ([] : List (Fin m)) := fun q x t h => by simp at h
theorem GoodP.snoc {bs : List Int} {m : Nat} {pre : List (Fin m)} {x : Fin m} (h : GoodP bs pre) (hx : erP bs pre x = 0) : GoodP bs (pre ++ [x]) := fun q y t e => by
  rcases List.eq_nil_or_concat t with rfl | ⟨t', z, rfl⟩
  · obtain ⟨rfl, e2⟩ := List.append_inj' e rfl
    simp only [List.cons.injEq, and_true] at e2
    rw [← e2]
    exact hx
  · rw [List.concat_eq_append, ← List.cons_append, ← List.append_assoc] at e
    obtain ⟨e1, _⟩ := List.append_inj' e rfl
    exact h q y t' e1
theorem VP_snoc (bs : List Int) {m : Nat} (pre : List (Fin m)) (x : Fin m) : VP bs (pre ++ [x]) = callV (VP bs pre) (decV (chB bs x.val)) := by
  unfold VP
  rw [List.map_append, List.map_singleton, runV_snoc]
theorem VP_take (bs : List Int) (m k : Nat) (h : k ≤ m) : VP bs ((List.finRange m).take k) = VKd bs k := by
  induction k with
  | zero => rfl
  | succ k ih => rw [fin_take m k h, VP_snoc, ih (by omega), VKd_succ]
theorem erP_take (bs : List Int) (m k : Nat) (h : k < m) : erP bs ((List.finRange m).take k) ⟨k, h⟩ = erK bs k := by
  unfold erP erK
  rw [VP_take bs m k (by omega)]
theorem GoodP.take {bs : List Int} {m k : Nat} (hk : k ≤ m) (h : GoodP bs ((List.finRange m).take k)) (i : Nat) (hi : i < k) : erK bs i = 0 := by
  rw [← erP_take bs m i (by omega)]
  refine h _ _ (((List.finRange m).take k).drop (i + 1)) ?_
  have e1 : ((List.finRange m).take k).take i = (List.finRange m).take i := by rw [List.take_take, Nat.min_eq_left (by omega)]
  rw [← e1]
  have hl : i < ((List.finRange m).take k).length := by simp; omega
  have e2 : ((List.finRange m).take k)[i] = ⟨i, by omega⟩ := by simp
  have := (List.take_append_drop i ((List.finRange m).take k)).symm
  rw [List.drop_eq_getElem_cons hl, e2] at this
  exact this
theorem pre_take {m : Nat} {pre : List (Fin m)} (h : pre <+: List.finRange m) : pre = (List.finRange m).take pre.length ∧ pre.length ≤ m := by
  refine ⟨List.prefix_iff_eq_take.1 h, ?_⟩
  have := h.length_le
  simpa using this
theorem VP_len (bs : List Int) {m : Nat} (pre : List (Fin m)) : (VP bs pre).length ≤ pre.length := by
  have := runV_len [] (pre.map fun i => decV (chB bs i.val))
  simpa [VP] using this
def DecodeEnd (w : World) (bs : List Int) (e : Ending) (w' : World) : Prop :=
  Below w.heap.size w w' ∧ ((bs.length % 31 ≠ 0 ∧ e = .returned (.tuple #[.pointer none, .int .i64 13])) ∨
    (∃ m k, bs.length = 31 * m ∧ k < m ∧ (∀ i, i < k → erK bs i = 0) ∧ erK bs k ≠ 0 ∧ e = .returned (.tuple #[.pointer none, .int .i64 (erK bs k)])) ∨
    (∃ m, bs.length = 31 * m ∧ (∀ i, i < m → erK bs i = 0) ∧ ∃ p bm sv, e = .returned (.tuple #[.pointer (some ⟨p, 0, none⟩), .int .i64 0]) ∧ StAt w' w.heap.size p bm sv (VKd bs m)))
set_option maxHeartbeats 8000000 in
set_option maxRecDepth 100000 in
theorem Decode_ok (a : Option Addr) (cap : Nat) (bs : List Int) (hl : bs.length ≤ 30000) (hcap : bs.length ≤ cap) (hcap2 : cap ≤ 9223372036854775807) (hB : IsB bs) (w : World) (h : RecsAt w a 1 encY bs) :
    Calls Try.prog 19 #[.slice a bs.length cap] w (DecodeEnd w bs) := by
  refine (callsIn_wide (n := 5)).1 ?_
  refine callsIn_of_wp_marks Try.func19 rfl trivial ?_ rfl
  simp only [Try.ntmps19, List.size_toArray, List.length_cons, List.length_nil, Nat.reduceAdd, Nat.reduceSub, Array.replicate_succ, Array.replicate_zero, List.push_toArray, List.append_toArray, List.nil_append, List.cons_append]
  refine wpIn_wide.2 ?_
  have HR := Lib.hid h
  have HBy := Lib.hid hB
  clear h hB
  by_cases h31 : bs.length % 31 = 0
  · obtain ⟨m, hm⟩ : ∃ m, bs.length = 31 * m := ⟨bs.length / 31, by omega⟩
    have HM := Lib.hid hm
    have d1 : decide ((0 : Int) < (bs.length : Int) % 31) = false := decide_eq_false (by omega)
    have d2 : decide (0 < bs.length % 31) = false := decide_eq_false (by omega)
    clear h31 hm
    obtain ⟨w0, hw0⟩ : ∃ W, (w.alloc (.cells #[.pointer none] 27)).alloc (.cells #[.int .i64 0] 32) = W := ⟨_, rfl⟩
    have hb0 : Below w.heap.size w w0 := by rw [← hw0]; exact ((Below.refl _ _).alloc (Nat.le_refl _) _).alloc (by simp) _
    have z0 : w0.heap.size = w.heap.size + 2 := by rw [← hw0]; simp
    have k2 : Blk w0 w.heap.size #[.pointer none] 27 := by rw [← hw0]; exact (Blk.new _ _ _).alloc _
    have k3 : Blk w0 (w.heap.size + 1) #[.int .i64 0] 32 := by
      rw [← hw0]
      have := Blk.new (w.alloc (.cells #[.pointer none] 27)) #[.int .i64 0] 32
      rw [World.size_alloc] at this
      exact this
    have HW0 := Lib.hid hw0
    have HB0 := Lib.hid hb0
    have K2 := Lib.hid k2
    have K3 := Lib.hid k3
    clear hw0 hb0 k2 k3
    go_wp2_with fail
    rw [HW0.out]
    with_reducible refine (bnew_ok w0.heap.size w0 (Nat.le_refl _)).mono ?_
    rintro e w1 ⟨p, bm, rfl, hS1, hb1, g1, g2⟩
    obtain ⟨w2, hw2⟩ : ∃ W, w1.alloc (.cells #[.pointer (some ⟨p, 0, none⟩)] 27) = W := ⟨_, rfl⟩
    have hb2 : Below w1.heap.size w1 w2 := by rw [← hw2]; exact (Below.refl _ _).alloc (Nat.le_refl _) _
    have hk4 : Blk w2 w1.heap.size #[.pointer (some ⟨p, 0, none⟩)] 27 := by rw [← hw2]; exact Blk.new _ _ _
    have hb12 := hb1.trans (hb2.mono hb1.size)
    have HS2 := Lib.hid (hS1.after hb2)
    have HB2 := Lib.hid (HB0.out.trans (hb12.mono HB0.out.size))
    have K22 := Lib.hid (K2.out.after hb12)
    have K32 := Lib.hid (K3.out.after hb12)
    have K42 := Lib.hid hk4
    have HW2 := Lib.hid hw2
    have z1 := hb1.size
    have z2 := hb2.size
    have zm := hS1.lt
    clear hw2 hb1 hb2 hb12 hS1 hk4
    go_wp2_with fail
    rw [HW2.out]
    with_reducible refine (chunk_call _ _ _ _).mono ?_
    rintro e w3 ⟨rfl, hw3⟩
    have hb3 : Below w2.heap.size w2 w3 := by rw [hw3]; exact ((Below.refl _ _).alloc (Nat.le_refl _) _).alloc (by simp) _
    have z3 : w3.heap.size = w2.heap.size + 2 := by rw [hw3]; simp
    have hch : ChAt w3 w3.heap.size w2.heap.size (.slice a bs.length cap) := by
      refine ⟨by rw [hw3]; exact (Blk.new _ _ _).alloc _, ?_, by omega⟩
      rw [hw3]
      have := Blk.new (w2.alloc (.cells #[.slice a bs.length cap] 52)) #[.int .i64 31] 3
      rw [World.size_alloc] at this
      exact this
    have HS3 := Lib.hid (HS2.out.after hb3)
    have HB3 := Lib.hid (HB2.out.trans (hb3.mono HB2.out.size))
    have K23 := Lib.hid (K22.out.after hb3)
    have K33 := Lib.hid (K32.out.after hb3)
    have K43 := Lib.hid (K42.out.after hb3)
    have HCH := Lib.hid hch
    clear hw3 hb3 hch HS2 HB2 K22 K32 K42 HW0 K2 K3 HB0 HW2
    go_wp2_with fail
    obtain ⟨b, o, ha⟩ : ∃ b o, 0 < m → a = some ⟨b, o, none⟩ := by
      by_cases h0 : 0 < m
      · obtain ⟨b, o, e, _⟩ := HR.out (by have := HM.out; omega)
        exact ⟨b, o, fun _ => e⟩
      · exact ⟨0, 0, fun h => absurd h h0⟩
    have HA := Lib.hid ha
    have hDc : ∀ (x : Fin m) W, Below w.heap.size w W → Calls Try.prog 43 #[.slice (some ⟨b, o + 31 * x.val, none⟩) 31 31] W (DecEnd W (chB bs x.val)) := fun x W hW => by
      have hx := x.isLt
      have e := HA.out (by omega)
      have h1 : RecsAt W (some ⟨b, o, none⟩) 1 encY bs := by rw [← e]; exact RowsAt.after HR.out hW
      exact decode_ok b (o + 31 * x.val) 31 (chB bs x.val) (chB_len bs m x.val HM.out hx) (by omega) (by omega) (HBy.out.part _ _) W (h1.part (31 * x.val) 31 (by have := HM.out; omega))
    have HDc := Lib.hid hDc
    have HC0 : Hid (ChAt w3 w3.heap.size w2.heap.size (.slice a (31 * m) cap)) := by
      have := HCH.out
      rw [HM.out] at this
      exact this
    clear ha hDc d1 d2 HCH
    have hm1 : 31 * m ≤ 30000 := by have := HM.out; omega
    refine wpIn_wide (n := 5) |>.1 ?_
    refine wpIn_range_set rfl (by omega) (gf := 58) (lb := #[.pointer (some ⟨w2.heap.size, 0, none⟩), .pointer (some ⟨w2.heap.size + 1, 0, none⟩)]) rfl trivial (enters_of Try.func58 (by kernel_rfl) rfl)
      (chunk_stops _ (by omega) w3.heap.size w2.heap.size a b o m cap HA.out (by have := HM.out; omega) hcap2 w3 HC0.out (Nat.le_refl _) (by omega)) Keep2.trans (keep2_b (by omega)) (Below.refl _ _) (fun _ => rfl)
      (fun (pre : List (Fin m)) W => GoodP bs pre ∧ (∃ sv, StAt W w0.heap.size p bm sv (VP bs pre)) ∧ Blk W w.heap.size #[.pointer none] 27 ∧ Blk W (w.heap.size + 1) #[.int .i64 0] 32 ∧ Blk W w1.heap.size #[.pointer (some ⟨p, 0, none⟩)] 27 ∧ (ChAt W w3.heap.size w2.heap.size (.slice a (31 * m) cap) ∧ w3.heap.size ≤ W.heap.size) ∧ Below w.heap.size w W)
      (fun c pre W => (c = .ret ∧ ∃ q x, pre = q ++ [x] ∧ GoodP bs q ∧ erP bs q x ≠ 0) ∧ Blk W w.heap.size #[.pointer none] 27 ∧ (∀ q x, pre = q ++ [x] → Blk W (w.heap.size + 1) #[.int .i64 (erP bs q x)] 32) ∧ Below w.heap.size w W)
      (OwnFrom.and (ownFrom_pure _ _) (OwnFrom.and (st_own _ _ _ _ _ (by omega)) (OwnFrom.and (Own.from (blk_own _ (fun _ => _) _) _) (OwnFrom.and (Own.from (blk_own _ (fun _ => _) _) _) (OwnFrom.and (Own.from (blk_own _ (fun _ => _) _) _) (OwnFrom.and (OwnFrom.and (Own.from (ch_own _ _ _) _) (fun s X Y row hs hg hr => Nat.le_trans hs hg.size)) (fun s X Y row hs hg hr => hs.grown hg hs.size (fun k e => by have := (hr k e).1; have := HB3.out.size; omega))))))))
      (fun c => OwnFrom.and (ownFrom_pure _ _) (OwnFrom.and (Own.from (blk_own _ (fun _ => _) _) _) (OwnFrom.and (fun pre X Y row hs hg hr q x e => (hs q x e).grown hg (fun e' => by obtain ⟨_, o, ho, hc⟩ := hr _ e'; rw [show X.heap[w.heap.size + 1]? = _ from hs q x e] at ho; cases ho; cases hc)) (fun s X Y row hs hg hr => hs.grown hg hs.size (fun k e => by have := (hr k e).1; have := HB3.out.size; omega)))))
      ⟨GoodP.nil bs, ⟨_, HS3.out⟩, K23.out, K33.out, K43.out, ⟨HC0.out, Nat.le_refl _⟩, HB3.out⟩
      (fun x t => t.setIfInBounds 5 (.slice (some ⟨b, o + 31 * x.val, none⟩) 31 31)) (Keep2.refl _)
      ?assign ?body ?done ?stop
    case assign =>
      intro l pre x W K hI hK
      have hK' := Lib.hid hK
      clear hK hI
      dsimp only [encC] at hK' ⊢
      gi_wp2_with fail
      simpa [setAct, encC] using hK'.out
    case body =>
      rintro l pre x W hl ⟨r, hr⟩ ⟨hG, ⟨sv, hst⟩, hk2, hk3, hk4, ⟨hch, hz3⟩, hB⟩ hlt
      have HC := Lib.hid (HDc.out x W hB)
      have zW := hB.size
      have hbmW := hst.lt
      simp only [setAct, encC]
      gi_wp2_with fail
      refine ⟨trivial, ?_⟩
      with_reducible refine (CallsIn.inRound l (callsIn_wide.2 HC.out)).mono ?_
      rintro e w4 ⟨rfl, hb4⟩
      obtain ⟨⟨vs, vc, vk, vd, vn, vm, vp⟩, hV⟩ : ∃ v, decV (chB bs x.val) = v := ⟨_, rfl⟩
      obtain ⟨D, hD⟩ : ∃ D, decB (chB bs x.val) = D := ⟨_, rfl⟩
      rw [hV, hD]
      have HV := Lib.hid hV
      have HDD := Lib.hid hD
      dsimp only [encS]
      obtain ⟨w5, hww5⟩ : ∃ W, w4.alloc (.cells #[.int .i64 vs, .bool vc, .int .i64 vk, .int .i64 vd, .int .i64 vn, .int .i64 vm, .int .i64 vp] 26) = W := ⟨_, rfl⟩
      have hbw5 : Below w4.heap.size w4 w5 := by rw [← hww5]; exact (Below.refl _ _).alloc (Nat.le_refl _) _
      have hkw5 : Hid (Blk w5 w4.heap.size #[.int .i64 vs, .bool vc, .int .i64 vk, .int .i64 vd, .int .i64 vn, .int .i64 vm, .int .i64 vp] 26) := by rw [← hww5]; exact Blk.new _ _ _
      have hzw5 := hbw5.size
      have HW5 := Lib.hid hww5
      have hb45 := hb4.trans (hbw5.mono hb4.size)
      have HS5 := Lib.hid (hst.after hb45)
      have k25 := hk2.after hb45
      have k35 := hk3.after hb45
      have k45 := hk4.after hb45
      have hB5 := hB.trans (hb45.mono hB.size)
      have HB5 := Lib.hid hB5
      have HKf := Lib.hid (keeps_below hb45 w3.heap.size)
      have HKp := Lib.hid (Keep2.of_below (Bs := w2.heap.size) hb45 (by omega))
      have HC5 := Lib.hid (hch.keep HKp.out)
      have HG := Lib.hid hG
      have hlen : (VP bs pre).length ≤ 2513169434900 := by have := VP_len bs pre; omega
      have hN : I64 vn ∧ I64 vm := by
        have hB1 := HBy.out.part (31 * x.val) 31
        have e1 : vn = rdN (((chB bs x.val).drop 14).take 8) := congrArg Vs.n hV.symm
        have e2 : vm = rdN (((chB bs x.val).drop 22).take 8) := congrArg Vs.m hV.symm
        rw [e1, e2]
        exact ⟨rdN_i64 (IsB.part hB1 _ _), rdN_i64 (IsB.part hB1 _ _)⟩
      have HN := Lib.hid hN
      clear hww5 hbw5 hst hk2 hk3 hk4 hB hch hG hV hD hN hb4 HC
      cases D with
      | false =>
        have HEr : Hid (erP bs pre x = 13) := (by show _ = _; unfold erP; rw [HDD.out, if_neg (by decide)])
        have hB6 := below_setCells (below_setCells hB5 (Nat.le_refl w.heap.size) 0 (.pointer none)) (show w.heap.size ≤ w.heap.size + 1 by omega) 0 (.int .i64 13)
        have kk2 := (k25.set 0 (.pointer none)).far 0 (.int .i64 13) (show w.heap.size ≠ w.heap.size + 1 by omega)
        have kk3 := (k35.far 0 (.pointer none) (show w.heap.size + 1 ≠ w.heap.size by omega)).set 0 (.int .i64 13)
        have q2 := k25.cell 0 rfl
        have q3 := k35.cell 0 rfl
        have f2 := k25.free 0
        have f3 := k35.free 0
        rw [← HW5.out] at q2 q3 f2 f3
        gi_wp2_with fail
        rw [HW5.out]
        refine ⟨HKf.out.trans (((KeepsOthers.setCell _ _ _).trans (KeepsOthers.setCell _ _ _)).from _), ⟨rfl, pre, x, rfl, HG.out, by rw [HEr.out]; decide⟩, kk2, fun q y e => ?_, hB6⟩
        obtain ⟨rfl, e2⟩ := List.append_inj' e rfl
        simp only [List.cons.injEq, and_true] at e2
        rw [← e2, HEr.out]
        exact kk3
      | true =>
        cases vc with
        | true =>
          have hp : Calls Try.prog 37 #[.pointer (some ⟨p, 0, none⟩), .int .i64 vs, .agg #[.int .i64 vk, .int .i64 vd, .int .i64 vp]] w5 (CallEnd w5 w0.heap.size p bm sv (VP bs pre) ⟨vs, true, vk, vd, vn, vm, vp⟩) := bchoose_ok w0.heap.size p bm sv (VP bs pre) vs vk vd vp trivial w5 (by have := hb45.size; omega) HS5.out hlen
          have HP := Lib.hid hp
          have u0 : w5.cell? ⟨w4.heap.size, 0, none⟩ = some (.int .i64 vs) := hkw5.out.cell 0 rfl
          have u1 : w5.cell? ⟨w4.heap.size, 1, none⟩ = some (.bool true) := hkw5.out.cell 1 rfl
          have u2 : w5.cell? ⟨w4.heap.size, 2, none⟩ = some (.int .i64 vk) := hkw5.out.cell 2 rfl
          have u3 : w5.cell? ⟨w4.heap.size, 3, none⟩ = some (.int .i64 vd) := hkw5.out.cell 3 rfl
          have u4 : w5.cell? ⟨w4.heap.size, 4, none⟩ = some (.int .i64 vn) := hkw5.out.cell 4 rfl
          have u5 : w5.cell? ⟨w4.heap.size, 5, none⟩ = some (.int .i64 vm) := hkw5.out.cell 5 rfl
          have u6 : w5.cell? ⟨w4.heap.size, 6, none⟩ = some (.int .i64 vp) := hkw5.out.cell 6 rfl
          have q4 := k45.cell 0 rfl
          rw [← HW5.out] at u0 u1 u2 u3 u4 u5 u6 q4
          gi_wp2_with fail
          rw [HW5.out]
          refine ⟨trivial, ?_⟩
          with_reducible refine (CallsIn.inRound l (callsIn_wide.2 HP.out)).mono ?_
          rintro e w6 ⟨sv2, rfl, hst6, ht6, _⟩
          unfold callV3
          obtain ⟨⟨os, oc, ok, od, on, om, op⟩, ho⟩ : ∃ o, (callO (VP bs pre) ⟨vs, true, vk, vd, vn, vm, vp⟩).getD default = o := ⟨_, rfl⟩
          obtain ⟨is, his⟩ : ∃ is, (callO (VP bs pre) ⟨vs, true, vk, vd, vn, vm, vp⟩).isSome = is := ⟨_, rfl⟩
          obtain ⟨E, hE⟩ : ∃ E, callE (VP bs pre) ⟨vs, true, vk, vd, vn, vm, vp⟩ = E := ⟨_, rfl⟩
          rw [ho, his, hE]
          have HEE := Lib.hid hE
          dsimp only [encS]
          have k26 := ht6.blk k25 (not_st HS5.out k25 (by decide) (by decide))
          have k36 := ht6.blk k35 (not_st HS5.out k35 (by decide) (by decide))
          have k46 := ht6.blk k45 (not_st HS5.out k45 (by decide) (by decide))
          have hB6' := hB5.trans (ht6.below hB5.size (fun b hb => by have := HS5.out.bs_ge b hb; have := z0; omega))
          have hKf6 := HKf.out.trans (keeps_st HS5.out ht6 (show bm < w3.heap.size by omega))
          have hKp6 := HKp.out.trans (Keep2.of_turn ht6 (show w2.heap.size + 1 < w5.heap.size by have := hb45.size; omega) (not_st HS5.out (HC5.out.1) (by decide) (by decide)) (not_st HS5.out (HC5.out.2.1) (by decide) (by decide)))
          have hC6 := HC5.out.keep (Keep2.of_turn ht6 (show w2.heap.size + 1 < w5.heap.size by have := hb45.size; omega) (not_st HS5.out (HC5.out.1) (by decide) (by decide)) (not_st HS5.out (HC5.out.2.1) (by decide) (by decide)))
          have z6 := ht6.size
          have z5 := hb45.size
          have HS6 := Lib.hid hst6
          clear hst6 ht6 ho his hE HP hp u0 u1 u2 u3 u4 u5 u6 q4 k25 k35 k45 hB5
          by_cases h0 : E = 0
          · subst h0
            have HEr : Hid (erP bs pre x = 0) := by
              show _ = _
              unfold erP
              rw [HDD.out, if_pos rfl, HV.out]
              exact HEE.out
            have HVP : Hid (VP bs (pre ++ [x]) = callV (VP bs pre) ⟨vs, true, vk, vd, vn, vm, vp⟩) := by
              show _ = _
              rw [VP_snoc, HV.out]
            have HFin : Hid (KeepsFrom w3.heap.size W w6 ∧ Keep2 w2.heap.size W w6 ∧ GoodP bs (pre ++ [x]) ∧ (∃ sv, StAt w6 w0.heap.size p bm sv (VP bs (pre ++ [x]))) ∧ Blk w6 w.heap.size #[.pointer none] 27 ∧ Blk w6 (w.heap.size + 1) #[.int .i64 0] 32 ∧ Blk w6 w1.heap.size #[.pointer (some ⟨p, 0, none⟩)] 27 ∧ (ChAt w6 w3.heap.size w2.heap.size (.slice a (31 * m) cap) ∧ w3.heap.size ≤ w6.heap.size) ∧ Below w.heap.size w w6) :=
              ⟨hKf6, hKp6, HG.out.snoc HEr.out, ⟨sv2, by rw [HVP.out]; exact HS6.out⟩, k26, k36, k46, ⟨hC6, by omega⟩, hB6'⟩
            clear hKf6 hKp6 k26 k36 k46 hC6 hB6'
            gi_wp2_with fail
            exact HFin.out
          · have e0 : (E != 0) = true := by simpa using h0
            have e1 : (E == 0) = false := by simpa using h0
            have H0 := Lib.hid h0
            clear h0
            have HEr : Hid (erP bs pre x = E) := (by show _ = _; unfold erP; rw [HDD.out, if_pos rfl, HV.out]; exact HEE.out)
            have hB6 := below_setCells (below_setCells hB6' (Nat.le_refl w.heap.size) 0 (.pointer none)) (show w.heap.size ≤ w.heap.size + 1 by omega) 0 (.int .i64 E)
            have kk2 := (k26.set 0 (.pointer none)).far 0 (.int .i64 E) (show w.heap.size ≠ w.heap.size + 1 by omega)
            have kk3 := (k36.far 0 (.pointer none) (show w.heap.size + 1 ≠ w.heap.size by omega)).set 0 (.int .i64 E)
            have q2 := k26.cell 0 rfl
            have q3 := k36.cell 0 rfl
            have f2 := k26.free 0
            have f3 := k36.free 0
            skip
            gi_wp2_with fail
            skip
            refine ⟨hKf6.trans (((KeepsOthers.setCell _ _ _).trans (KeepsOthers.setCell _ _ _)).from _), ⟨rfl, pre, x, rfl, HG.out, by rw [HEr.out]; exact H0.out⟩, kk2, fun q y e => ?_, hB6⟩
            obtain ⟨rfl, e2⟩ := List.append_inj' e rfl
            simp only [List.cons.injEq, and_true] at e2
            rw [← e2, HEr.out]
            exact kk3
        | false =>
          have hp : Calls Try.prog 36 #[.pointer (some ⟨p, 0, none⟩), .int .i64 vs, .agg #[.int .i64 vk, .int .i64 vd, .int .i64 vn, .int .i64 vm]] w5 (CallEnd w5 w0.heap.size p bm sv (VP bs pre) ⟨vs, false, vk, vd, vn, vm, vp⟩) := bfix_ok w0.heap.size p bm sv (VP bs pre) vs vk vd vn vm HN.out.1 HN.out.2 w5 (by have := hb45.size; omega) HS5.out hlen
          have HP := Lib.hid hp
          have u0 : w5.cell? ⟨w4.heap.size, 0, none⟩ = some (.int .i64 vs) := hkw5.out.cell 0 rfl
          have u1 : w5.cell? ⟨w4.heap.size, 1, none⟩ = some (.bool false) := hkw5.out.cell 1 rfl
          have u2 : w5.cell? ⟨w4.heap.size, 2, none⟩ = some (.int .i64 vk) := hkw5.out.cell 2 rfl
          have u3 : w5.cell? ⟨w4.heap.size, 3, none⟩ = some (.int .i64 vd) := hkw5.out.cell 3 rfl
          have u4 : w5.cell? ⟨w4.heap.size, 4, none⟩ = some (.int .i64 vn) := hkw5.out.cell 4 rfl
          have u5 : w5.cell? ⟨w4.heap.size, 5, none⟩ = some (.int .i64 vm) := hkw5.out.cell 5 rfl
          have u6 : w5.cell? ⟨w4.heap.size, 6, none⟩ = some (.int .i64 vp) := hkw5.out.cell 6 rfl
          have q4 := k45.cell 0 rfl
          rw [← HW5.out] at u0 u1 u2 u3 u4 u5 u6 q4
          gi_wp2_with fail
          rw [HW5.out]
          refine ⟨trivial, ?_⟩
          with_reducible refine (CallsIn.inRound l (callsIn_wide.2 HP.out)).mono ?_
          rintro e w6 ⟨sv2, rfl, hst6, ht6, _⟩
          unfold callV3
          obtain ⟨⟨os, oc, ok, od, on, om, op⟩, ho⟩ : ∃ o, (callO (VP bs pre) ⟨vs, false, vk, vd, vn, vm, vp⟩).getD default = o := ⟨_, rfl⟩
          obtain ⟨is, his⟩ : ∃ is, (callO (VP bs pre) ⟨vs, false, vk, vd, vn, vm, vp⟩).isSome = is := ⟨_, rfl⟩
          obtain ⟨E, hE⟩ : ∃ E, callE (VP bs pre) ⟨vs, false, vk, vd, vn, vm, vp⟩ = E := ⟨_, rfl⟩
          rw [ho, his, hE]
          have HEE := Lib.hid hE
          dsimp only [encS]
          have k26 := ht6.blk k25 (not_st HS5.out k25 (by decide) (by decide))
          have k36 := ht6.blk k35 (not_st HS5.out k35 (by decide) (by decide))
          have k46 := ht6.blk k45 (not_st HS5.out k45 (by decide) (by decide))
          have hB6' := hB5.trans (ht6.below hB5.size (fun b hb => by have := HS5.out.bs_ge b hb; have := z0; omega))
          have hKf6 := HKf.out.trans (keeps_st HS5.out ht6 (show bm < w3.heap.size by omega))
          have hKp6 := HKp.out.trans (Keep2.of_turn ht6 (show w2.heap.size + 1 < w5.heap.size by have := hb45.size; omega) (not_st HS5.out (HC5.out.1) (by decide) (by decide)) (not_st HS5.out (HC5.out.2.1) (by decide) (by decide)))
          have hC6 := HC5.out.keep (Keep2.of_turn ht6 (show w2.heap.size + 1 < w5.heap.size by have := hb45.size; omega) (not_st HS5.out (HC5.out.1) (by decide) (by decide)) (not_st HS5.out (HC5.out.2.1) (by decide) (by decide)))
          have z6 := ht6.size
          have z5 := hb45.size
          have HS6 := Lib.hid hst6
          clear hst6 ht6 ho his hE HP hp u0 u1 u2 u3 u4 u5 u6 q4 k25 k35 k45 hB5
          by_cases h0 : E = 0
          · subst h0
            have HEr : Hid (erP bs pre x = 0) := by
              show _ = _
              unfold erP
              rw [HDD.out, if_pos rfl, HV.out]
              exact HEE.out
            have HVP : Hid (VP bs (pre ++ [x]) = callV (VP bs pre) ⟨vs, false, vk, vd, vn, vm, vp⟩) := by
              show _ = _
              rw [VP_snoc, HV.out]
            have HFin : Hid (KeepsFrom w3.heap.size W w6 ∧ Keep2 w2.heap.size W w6 ∧ GoodP bs (pre ++ [x]) ∧ (∃ sv, StAt w6 w0.heap.size p bm sv (VP bs (pre ++ [x]))) ∧ Blk w6 w.heap.size #[.pointer none] 27 ∧ Blk w6 (w.heap.size + 1) #[.int .i64 0] 32 ∧ Blk w6 w1.heap.size #[.pointer (some ⟨p, 0, none⟩)] 27 ∧ (ChAt w6 w3.heap.size w2.heap.size (.slice a (31 * m) cap) ∧ w3.heap.size ≤ w6.heap.size) ∧ Below w.heap.size w w6) :=
              ⟨hKf6, hKp6, HG.out.snoc HEr.out, ⟨sv2, by rw [HVP.out]; exact HS6.out⟩, k26, k36, k46, ⟨hC6, by omega⟩, hB6'⟩
            clear hKf6 hKp6 k26 k36 k46 hC6 hB6'
            gi_wp2_with fail
            exact HFin.out
          · have e0 : (E != 0) = true := by simpa using h0
            have e1 : (E == 0) = false := by simpa using h0
            have H0 := Lib.hid h0
            clear h0
            have HEr : Hid (erP bs pre x = E) := (by show _ = _; unfold erP; rw [HDD.out, if_pos rfl, HV.out]; exact HEE.out)
            have hB6 := below_setCells (below_setCells hB6' (Nat.le_refl w.heap.size) 0 (.pointer none)) (show w.heap.size ≤ w.heap.size + 1 by omega) 0 (.int .i64 E)
            have kk2 := (k26.set 0 (.pointer none)).far 0 (.int .i64 E) (show w.heap.size ≠ w.heap.size + 1 by omega)
            have kk3 := (k36.far 0 (.pointer none) (show w.heap.size + 1 ≠ w.heap.size by omega)).set 0 (.int .i64 E)
            have q2 := k26.cell 0 rfl
            have q3 := k36.cell 0 rfl
            have f2 := k26.free 0
            have f3 := k36.free 0
            skip
            gi_wp2_with fail
            skip
            refine ⟨hKf6.trans (((KeepsOthers.setCell _ _ _).trans (KeepsOthers.setCell _ _ _)).from _), ⟨rfl, pre, x, rfl, HG.out, by rw [HEr.out]; exact H0.out⟩, kk2, fun q y e => ?_, hB6⟩
            obtain ⟨rfl, e2⟩ := List.append_inj' e rfl
            simp only [List.cons.injEq, and_true] at e2
            rw [← e2, HEr.out]
            exact kk3
    case done =>
      rintro D ys W hD rfl ⟨hG, ⟨sv, hst⟩, hk2, hk3, hk4, ⟨hch, hz3⟩, hB⟩ hK
      have c2 := hk2.cell 0 rfl
      have c3 := hk3.cell 0 rfl
      have c4 := hk4.cell 0 rfl
      have f2 := hk2.free 0
      have f3 := hk3.free 0
      obtain ⟨W2, hW2⟩ : ∃ X, (W.setCell ⟨w.heap.size, 0, none⟩ (.pointer (some ⟨p, 0, none⟩))).setCell ⟨w.heap.size + 1, 0, none⟩ (.int .i64 0) = X := ⟨_, rfl⟩
      have hb2 : Below w.heap.size w W2 := by rw [← hW2]; exact below_setCells (below_setCells hB (Nat.le_refl _) 0 _) (show w.heap.size ≤ w.heap.size + 1 by omega) 0 _
      have KF2 : Hid (Blk W2 w.heap.size #[.pointer (some ⟨p, 0, none⟩)] 27) := by rw [← hW2]; exact (hk2.set 0 (.pointer (some ⟨p, 0, none⟩))).far 0 _ (show w.heap.size ≠ w.heap.size + 1 by omega)
      have KF3 : Hid (Blk W2 (w.heap.size + 1) #[.int .i64 0] 32) := by rw [← hW2]; exact (hk3.far 0 _ (show w.heap.size + 1 ≠ w.heap.size by omega)).set 0 (.int .i64 0)
      have hK2 : W2.heap[D]? = some (.deferred (some [])) := by rw [← hW2]; exact ((KeepsOthers.setCell _ _ _).trans (KeepsOthers.setCell _ _ _)).same D _ hK rfl
      have ht2 : Turn [w.heap.size, w.heap.size + 1] W W2 := by rw [← hW2]; exact (Turn.of_grown (grown_setCell _ _ _ _) (by simp)).trans (Turn.of_grown (grown_setCell _ _ _ _) (by simp))
      have hn2 := not_st hst hk2 (by decide) (by decide)
      have hn3 := not_st hst hk3 (by decide) (by decide)
      have hst2 : StAt W2 w0.heap.size p bm sv (VP bs (List.finRange m)) := hst.turn ht2 (fun hb => by
          rcases List.mem_cons.1 hb with e | hb
          · exact hn2 (by rw [← e]; simp [StAt.bs])
          · exact hn3 (by rw [← List.mem_singleton.1 hb]; simp [StAt.bs])) (fun hb => by
          rcases List.mem_cons.1 hb with e | hb
          · exact hn2 (by rw [← e]; simp [StAt.bs])
          · exact hn3 (by rw [← List.mem_singleton.1 hb]; simp [StAt.bs])) (fun g hg hb => by
          rcases List.mem_cons.1 hb with e | hb
          · exact hn2 (by rw [← e]; unfold StAt.bs; rw [hg]; simp)
          · exact hn3 (by rw [← List.mem_singleton.1 hb]; unfold StAt.bs; rw [hg]; simp)) (fun b hb cur hc => by
          rcases List.mem_cons.1 hb with e | hb
          · have h2 : W.heap[w.heap.size]? = _ := hk2
            rw [e, h2] at hc; simp at hc
          · have h2 : W.heap[w.heap.size + 1]? = _ := hk3
            rw [List.mem_singleton.1 hb, h2] at hc; simp at hc)
      have hfin := (st_own (β := Unit) w0.heap.size p bm w3.heap.size (fun _ => VP bs (List.finRange m)) (by omega)).putObj (s := ()) (.deferred none) ⟨sv, hst2⟩ hD hK2 rfl
      have HW2 := Lib.hid hW2
      have HF := Lib.hid hfin
      have HGd := Lib.hid hG
      have HB2 := Lib.hid hb2
      have HK2 := Lib.hid hK2
      clear hW2 hb2 hK2 ht2 hn2 hn3 hst2 hfin hst hk2 hk3 hk4 hch hB hG
      go_wp2_with fail
      rw [HW2.out]
      refine ⟨by simp, .inl ⟨_, _, rfl, run_takeDeferred HK2.out, ?_⟩⟩
      have r0 := cell_kept (KF2.out.cell 0 rfl) (grownBy_putObj' _ D (.deferred none)) (fun r e => by cases e; exact ⟨_, HK2.out, rfl⟩)
      have r1 := cell_kept (KF3.out.cell 0 rfl) (grownBy_putObj' _ D (.deferred none)) (fun r e => by cases e; exact ⟨_, HK2.out, rfl⟩)
      obtain ⟨sv2, hs2⟩ := HF.out
      refine ⟨.tuple #[.pointer (some ⟨p, 0, none⟩), .int .i64 0], by simp [results, Try.results19, go_sem, r0, r1], HB2.out.trans (belowK_b (w := w) (Nat.le_refl _) _ D _ _ (by have := HB3.out.size; omega) HK2.out rfl rfl), Or.inr (Or.inr ⟨m, HM.out, fun i hi => ?_, p, bm, sv2, rfl, ?_⟩)⟩
      · have hg := HGd.out
        rw [← List.take_of_length_le (l := List.finRange m) (i := m) (by simp)] at hg
        exact hg.take (Nat.le_refl _) i hi
      · have e1 : VP bs (List.finRange m) = VKd bs m := by
          rw [← VP_take bs m m (Nat.le_refl _), List.take_of_length_le (by simp)]
        rw [← e1]
        exact ⟨hs2.blk, own_down' hs2.own (by omega), hs2.map.imp fun E hE => hE.down (by omega), by have := hs2.hp; omega, by have := hs2.hm; omega⟩
    case stop =>
      rintro D c pre W hD hpre ⟨⟨rfl, q, x, rfl, hG, hne⟩, hk2, hk3, hB⟩ hK
      have HK2 := Lib.hid hk2
      have HK3 := Lib.hid (hk3 q x rfl)
      have HBs := Lib.hid hB
      have hp := pre_take hpre
      have hle : q.length < m := by have := hp.2; simp at this; omega
      have hq : q = (List.finRange m).take q.length := by
        have h1 := hp.1
        simp only [List.length_append, List.length_singleton] at h1
        rw [fin_take m q.length hle] at h1
        exact (List.append_inj' h1 rfl).1
      have hx : x = ⟨q.length, hle⟩ := by
        have h1 := hp.1
        simp only [List.length_append, List.length_singleton] at h1
        rw [fin_take m q.length hle] at h1
        have := (List.append_inj' h1 rfl).2
        simpa using this
      have hE : erP bs q x = erK bs q.length := by
        rw [hx]
        exact (congrArg (fun z => erP bs z ⟨q.length, hle⟩) hq).trans (erP_take bs m q.length hle)
      have hGk : ∀ i, i < q.length → erK bs i = 0 := fun i hi => by
        have := hG
        rw [hq] at this
        exact this.take (by omega) i hi
      rw [hE] at hne
      have HE := Lib.hid hE
      have HGk := Lib.hid hGk
      have HNe := Lib.hid hne
      clear hG hk2 hk3 hB hp hpre hq hx hE hGk hne
      gi_wp2_with fail
      refine ⟨by simp, .inl ⟨_, _, rfl, run_takeDeferred hK, ?_⟩⟩
      have r0 := cell_kept (HK2.out.cell 0 rfl) (grownBy_putObj' _ D (.deferred none)) (fun r e => by cases e; exact ⟨_, hK, rfl⟩)
      have r1 := cell_kept (HK3.out.cell 0 rfl) (grownBy_putObj' _ D (.deferred none)) (fun r e => by cases e; exact ⟨_, hK, rfl⟩)
      refine ⟨.tuple #[.pointer none, .int .i64 (erP bs q x)], by simp [results, Try.results19, go_sem, r0, r1], HBs.out.trans (belowK_b (w := w) (Nat.le_refl _) _ D _ _ (by have := HB3.out.size; omega) hK rfl rfl), Or.inr (Or.inl ⟨m, q.length, HM.out, hle, HGk.out, HNe.out, by rw [HE.out]⟩)⟩
  · have d1 : decide ((0 : Int) < (bs.length : Int) % 31) = true := decide_eq_true (by omega)
    have d2 : decide (0 < bs.length % 31) = true := decide_eq_true (by omega)
    have H31 := Lib.hid h31
    clear h31
    go_wp2_with fail
    refine leave_ret2 rfl ⟨.tuple #[.pointer none, .int .i64 13], by simp [results, Try.results19, go_sem], ((Below.refl _ _).alloc (Nat.le_refl _) _).alloc (by simp) _, Or.inl ⟨H31.out, rfl⟩⟩

end Go.Proofs.Ytkloijkfaooodaa
