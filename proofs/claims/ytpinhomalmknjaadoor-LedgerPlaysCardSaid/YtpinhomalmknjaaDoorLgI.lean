/- The law's list: what is gone through. -/
import Derived.Test.YtpinhomalmknjaaDoorLgH
namespace Go.Proofs.YtpinhomalmknjaaDoor
open Go.RowKit Go.Sort Go.Shelf
set_option linter.unusedVariables false
set_option linter.unusedSimpArgs false
attribute [local go_sem] Oper.semAt_some

theorem infoI : (Tryd.prog.info? 3).map (fun i => (i.zero, i.size, i.bytes)) = some (some (.int .i64 0), 1, 8) := by kernel_rfl
/-- A block of another type stays what it is, where a row is appended to. -/
theorem app_keep {W w1 : World} {n0 size k B : Nat} {e : TypeId} {v : Value} {xs : List Value} {tmp : Obj} (hrow : W.ownsRow n0 e size v k xs) (hgrow : (W.alloc tmp).grownBy w1 v.ownBlock) (u : Value) {q : Nat} {cs : Array Value} {T : TypeId} {fr : Nat × Nat} (h : W.heap[q]? = some (.cells cs T fr)) (hT : T ≠ e) (hB : q ≠ B) :
    (w1.setCell ⟨B, 0, none⟩ u).heap[q]? = some (.cells cs T fr) := by
  have hq := (Array.getElem?_eq_some_iff.1 h).1
  have h1 : (W.alloc tmp).heap[q]? = some (.cells cs T fr) := ((Below.refl W.heap.size W).alloc (Nat.le_refl _) tmp).block q hq |>.trans h
  have h2 : w1.heap[q]? = some (.cells cs T fr) := (hgrow.block q (by simp; omega) (fun e1 => by
    obtain ⟨cur, hc⟩ := (own_cells hrow e1.symm).2.2
    rw [h] at hc
    cases hc
    exact hT rfl)).trans h1
  exact ((grownBy_setCell' w1 B u).block q (Array.getElem?_eq_some_iff.1 h2).1 (fun e1 => hB (Option.some.inj e1))).trans h2
theorem EnOk.kept {W W' : World} {x : En} (h : EnOk W x) (ht : TyLn W x.a) (hk : ∀ (q : Nat) (cs : Array Value) (fr : Nat × Nat), W.heap[q]? = some (.cells cs 101 fr) → W'.heap[q]? = some (.cells cs 101 fr)) : EnOk W' x ∧ TyLn W' x.a := by
  refine ⟨⟨fun hl => ?_, h.wf, h.few, h.nil⟩, fun y e => ?_⟩
  · obtain ⟨b, o, e, hc⟩ := h.ln hl
    obtain ⟨cs, fr, hb⟩ := ht _ e
    have hbb : W'.heap[b]? = W.heap[b]? := (hk b cs fr hb).trans hb.symm
    exact ⟨b, o, e, fun i hi => ⟨(World.cell?_of_block hbb).trans (hc i hi).1, (World.cell?_of_block hbb).trans (hc i hi).2.1, (World.cell?_of_block hbb).trans (hc i hi).2.2⟩⟩
  · obtain ⟨cs, fr, hb⟩ := ht y e
    exact ⟨cs, fr, hk _ _ _ hb⟩
theorem own_block {W W' : World} {base size k : Nat} {e : TypeId} {v : Value} {xs : List Value} (h : W.ownsRow base e size v k xs) (hk : ∀ (q : Nat) (cs : Array Value) (fr : Nat × Nat), W.heap[q]? = some (.cells cs e fr) → W'.heap[q]? = some (.cells cs e fr)) : W'.ownsRow base e size v k xs := by
  obtain ⟨h1, h2⟩ := h
  refine ⟨h1, ?_⟩
  rcases h2 with h2 | ⟨g, cap, cur, hv, hg, hh, r⟩
  · exact Or.inl h2
  · exact Or.inr ⟨g, cap, cur, hv, hg, hk _ _ _ hh, r⟩
theorem app_mid {W w1 : World} {m size k B q : Nat} {e : TypeId} {v : Value} {xs : List Value} {tmp : Obj} (hrow : W.ownsRow m e size v k xs) (hm : m ≤ W.heap.size) (hgrow : (W.alloc tmp).grownBy w1 v.ownBlock) (u : Value) (hq : q < m) (hB : B ≠ q) : (w1.setCell ⟨B, 0, none⟩ u).heap[q]? = W.heap[q]? := by
  have h1 : (W.alloc tmp).heap[q]? = W.heap[q]? := ((Below.refl W.heap.size W).alloc (Nat.le_refl _) tmp).block q (by omega)
  have h2 : w1.heap[q]? = (W.alloc tmp).heap[q]? := hgrow.block q (by simp; omega) (fun e1 => by have := (own_cells hrow e1.symm).1; omega)
  have h3 : q < w1.heap.size := by have := hgrow.size; simp at this; omega
  exact ((grownBy_setCell' w1 B u).block q h3 (fun e1 => hB (Option.some.inj e1).symm)).trans (h2.trans h1)
theorem own_lowI {w : World} {base base' e size n : Nat} {v : Value} {xs : List Value} (h : w.ownsRow base e size v n xs) (hb : base' ≤ base) : w.ownsRow base' e size v n xs := ⟨h.1, h.2.imp id fun ⟨g, cap, cur, h1, h2, h3⟩ => ⟨g, cap, cur, h1, Nat.le_trans hb h2, h3⟩⟩
/-- The law's two lists, so far. -/
structure LRow (n0 m : Nat) (w0 : World) (xs : List Int) (es : List En) (W : World) : Prop where
  ri : ∃ v, Boxed W (n0 + 1 + 1 + 1) 57 v ∧ W.ownsRow m 3 1 v xs.length (intsV xs)
  re : ∃ v, Boxed W (n0 + 1 + 1 + 1 + 1) 42 v ∧ W.ownsRow m 27 7 v es.length (cellsL En.cs es)
  b2 : Blk W n0 #[.slice none 0 0] 57
  b3 : Blk W (n0 + 1) #[.slice none 0 0] 42
  b4 : Blk W (n0 + 1 + 1) #[.bool false] 4
  ln : ∀ x ∈ es, EnOk W x ∧ TyLn W x.a
  be : Below n0 w0 W
  sz : w0.heap.size ≤ W.heap.size
  mz : m ≤ W.heap.size
theorem LRow.own (B n0 m : Nat) (w0 : World) (hB : n0 ≤ B) : OwnFrom B (fun (pre : List (Int × En)) W => LRow n0 m w0 (pre.map Prod.fst) (pre.map Prod.snd) W) := fun pre W W' row h hg hr => by
  have hk : ∀ (q : Nat) (cs : Array Value) (T : TypeId) (fr : Nat × Nat), W.heap[q]? = some (.cells cs T fr) → W'.heap[q]? = some (.cells cs T fr) := fun q cs T fr hq => (hg.block q (Array.getElem?_eq_some_iff.1 hq).1 (fun e => by
    obtain ⟨_, o, h1, h2⟩ := hr q e.symm
    rw [hq] at h1
    cases h1
    cases h2)).trans hq
  obtain ⟨vi, hi1, hi2⟩ := h.ri
  obtain ⟨ve, he1, he2⟩ := h.re
  exact ⟨⟨vi, hk _ _ _ _ hi1, own_block hi2 (fun q cs fr => hk q cs _ fr)⟩, ⟨ve, hk _ _ _ _ he1, own_block he2 (fun q cs fr => hk q cs _ fr)⟩, hk _ _ _ _ h.b2, hk _ _ _ _ h.b3, hk _ _ _ _ h.b4, fun x hx => (h.ln x hx).1.kept (h.ln x hx).2 (fun q cs fr => hk q cs _ fr), h.be.grown hg (by have := h.b2.lt; omega) (fun q e => Nat.le_trans hB (hr q e).1), Nat.le_trans h.sz hg.size, Nat.le_trans h.mz hg.size⟩
theorem LRow.num {n0 m lo : Nat} {w0 W w1 : World} {xs : List Int} {es : List En} {v v' : Value} {k : Int} {tmp : Obj} (h : LRow n0 m w0 xs es W) (hn : n0 ≤ m) (hlo : n0 + 5 ≤ lo) (hv : Boxed W (n0 + 1 + 1 + 1) 57 v) (ho : W.ownsRow m 3 1 v xs.length (intsV xs))
    (hown : w1.ownsRow m 3 1 v' (xs.length + 1) (intsV xs ++ [.int .i64 k])) (hgrow : (W.alloc tmp).grownBy w1 v.ownBlock) : LRow n0 m w0 (xs ++ [k]) es (w1.setCell ⟨n0 + 1 + 1 + 1, 0, none⟩ v') ∧ KeepsOthers W (w1.setCell ⟨n0 + 1 + 1 + 1, 0, none⟩ v') ∧ Kept n0 lo m W (w1.setCell ⟨n0 + 1 + 1 + 1, 0, none⟩ v') ∧ Boxed w1 (n0 + 1 + 1 + 1) 57 v ∧ (∀ T : TypeId, T ≠ 3 → T ≠ 57 → ∀ (q : Nat) (cs : Array Value) (fr : Nat × Nat), W.heap[q]? = some (.cells cs T fr) → (w1.setCell ⟨n0 + 1 + 1 + 1, 0, none⟩ v').heap[q]? = some (.cells cs T fr)) := by
  have hmk := h.mz
  obtain ⟨h1, h2, h3, h4, h5⟩ := hv.appended (by decide) (own_lowI ho hn) (by omega) (show n0 ≤ n0 + 1 + 1 + 1 by omega) (own_lowI hown hn) hgrow
  obtain ⟨ve, he1, he2⟩ := h.re
  have hk : ∀ (q : Nat) (cs : Array Value) (T : TypeId) (fr : Nat × Nat), W.heap[q]? = some (.cells cs T fr) → T ≠ 3 → q ≠ n0 + 1 + 1 + 1 → (w1.setCell ⟨n0 + 1 + 1 + 1, 0, none⟩ v').heap[q]? = some (.cells cs T fr) := fun q cs T fr a b c => app_keep ho hgrow v' a b c
  have hkT : ∀ T, T ≠ 3 → T ≠ 57 → ∀ (q : Nat) (cs : Array Value) (fr : Nat × Nat), W.heap[q]? = some (.cells cs T fr) → (w1.setCell ⟨n0 + 1 + 1 + 1, 0, none⟩ v').heap[q]? = some (.cells cs T fr) := fun T a b q cs fr c => hk q cs T fr c a (fun e => by
    rw [e, show W.heap[n0 + 1 + 1 + 1]? = _ from hv] at c
    cases c
    exact b rfl)
  refine ⟨⟨⟨v', h2, ?_⟩, ⟨ve, hk _ _ _ _ he1 (by decide) (by omega), own_block he2 (hkT _ (by decide) (by decide))⟩, hk _ _ _ _ h.b2 (by decide) (by omega), hk _ _ _ _ h.b3 (by decide) (by omega), hk _ _ _ _ h.b4 (by decide) (by omega), fun x hx => (h.ln x hx).1.kept (h.ln x hx).2 (hkT _ (by decide) (by decide)), h.be.trans h5, Nat.le_trans h.sz h5.size, Nat.le_trans h.mz h5.size⟩, h4, ⟨h5, fun q ob g1 g2 g3 _ => (app_mid ho hmk hgrow v' g2 (by omega)).trans g3⟩, h1, hkT⟩
  rw [List.length_append, intsV_snoc]
  exact hown.kept (grownBy_setCell' w1 _ v') (.inr (h1.not_row (by decide) hown).symm)
theorem LRow.ent {n0 m lo : Nat} {w0 W w1 : World} {xs : List Int} {es : List En} {v v' : Value} {x : En} {tmp : Obj} (h : LRow n0 m w0 xs es W) (hn : n0 ≤ m) (hlo : n0 + 5 ≤ lo) (hv : Boxed W (n0 + 1 + 1 + 1 + 1) 42 v) (ho : W.ownsRow m 27 7 v es.length (cellsL En.cs es)) (hx : EnOk W x ∧ TyLn W x.a)
    (hown : w1.ownsRow m 27 7 v' (es.length + 1) (cellsL En.cs es ++ x.cs)) (hgrow : (W.alloc tmp).grownBy w1 v.ownBlock) : LRow n0 m w0 xs (es ++ [x]) (w1.setCell ⟨n0 + 1 + 1 + 1 + 1, 0, none⟩ v') ∧ KeepsOthers W (w1.setCell ⟨n0 + 1 + 1 + 1 + 1, 0, none⟩ v') ∧ Kept n0 lo m W (w1.setCell ⟨n0 + 1 + 1 + 1 + 1, 0, none⟩ v') ∧ Boxed w1 (n0 + 1 + 1 + 1 + 1) 42 v := by
  have hmk := h.mz
  obtain ⟨h1, h2, h3, h4, h5⟩ := hv.appended (by decide) (own_lowI ho hn) (by omega) (show n0 ≤ n0 + 1 + 1 + 1 + 1 by omega) (own_lowI hown hn) hgrow
  obtain ⟨vi, hi1, hi2⟩ := h.ri
  have hk : ∀ (q : Nat) (cs : Array Value) (T : TypeId) (fr : Nat × Nat), W.heap[q]? = some (.cells cs T fr) → T ≠ 27 → q ≠ n0 + 1 + 1 + 1 + 1 → (w1.setCell ⟨n0 + 1 + 1 + 1 + 1, 0, none⟩ v').heap[q]? = some (.cells cs T fr) := fun q cs T fr a b c => app_keep ho hgrow v' a b c
  have hkT : ∀ T, T ≠ 27 → T ≠ 42 → ∀ (q : Nat) (cs : Array Value) (fr : Nat × Nat), W.heap[q]? = some (.cells cs T fr) → (w1.setCell ⟨n0 + 1 + 1 + 1 + 1, 0, none⟩ v').heap[q]? = some (.cells cs T fr) := fun T a b q cs fr c => hk q cs T fr c a (fun e => by
    rw [e, show W.heap[n0 + 1 + 1 + 1 + 1]? = _ from hv] at c
    cases c
    exact b rfl)
  refine ⟨⟨⟨vi, hk _ _ _ _ hi1 (by decide) (by omega), own_block hi2 (hkT _ (by decide) (by decide))⟩, ⟨v', h2, ?_⟩, hk _ _ _ _ h.b2 (by decide) (by omega), hk _ _ _ _ h.b3 (by decide) (by omega), hk _ _ _ _ h.b4 (by decide) (by omega), fun z hz => ?_, h.be.trans h5, Nat.le_trans h.sz h5.size, Nat.le_trans h.mz h5.size⟩, h4, ⟨h5, fun q ob g1 g2 g3 _ => (app_mid ho hmk hgrow v' g2 (by omega)).trans g3⟩, h1⟩
  · rw [List.length_append, cellsL_snoc]
    exact hown.kept (grownBy_setCell' w1 _ v') (.inr (h1.not_row (by decide) hown).symm)
  · rcases List.mem_append.1 hz with hz | hz
    · exact (h.ln z hz).1.kept (h.ln z hz).2 (hkT _ (by decide) (by decide))
    · rw [List.mem_singleton.1 hz]
      exact hx.1.kept hx.2 (hkT _ (by decide) (by decide))

theorem alloc_at {W : World} {q : Nat} (h : W.heap.size = q) (o : Obj) : (W.alloc o).heap[q]? = some o := by rw [← h]; exact World.alloc_heap_new W o
theorem eqlfL (fn : Fn) (a b : Array Value) (w : World) : (binOp .eql 60 (.func fn a b) .nilFunc).run Tryd.prog w = .ok (.bool false) w := by kernel_rfl
def encN (n : Int) : List Value := [.int .i64 n]
theorem intsV_cells (xs : List Int) : intsV xs = cellsL encN xs := by
  induction xs with
  | nil => rfl
  | cons x xs ih => simp only [intsV, List.map_cons] at ih ⊢; rw [ih]; rfl
def ListEnd (w : World) (A : List (Int × EnP)) (e : Ending) (w' : World) : Prop :=
  ∃ (an : Option Addr) (cn : Nat) (ae : Option Addr) (ce : Nat) (zs : List (Int × En)), zs.map prI = A ∧ e = .returned (.tuple #[.slice an A.length cn, .slice ae A.length ce, .bool true]) ∧ SlAt w' 1 encN an cn (A.map Prod.fst) ∧ SlAt w' 7 En.cs ae ce (zs.map Prod.snd) ∧ (∀ z ∈ zs, EnOk w' z.2) ∧ Below w.heap.size w w' ∧ ∀ x, ae = some x → w.heap.size ≤ x.block
set_option maxRecDepth 100000 in
set_option maxHeartbeats 8000000 in
theorem list_any (gf : Nat) (lb : Array Value) (N : Nat) (A : List (Int × EnP)) (Sp : List (Int × En) → Prop) (w : World) (hN : N ≤ 200) (hgf : ∀ args w, (callFunc gf args).run Tryd.prog w = .ok (.enter gf args) w)
    (h : ∀ w0, Below w.heap.size w w0 → SeqTells Fence.wide 4 Tryd.prog gf lb encIE (FactIE w.heap.size) (Kept w.heap.size) (fun xs => xs.map prI = A) Sp N w0) :
    Calls Tryd.prog 23 #[.func (.func gf) #[] lb] w (ListEnd w A) := by
  obtain ⟨i0, hi, hi0, hi1, hi2⟩ := info_parts infoI
  obtain ⟨j0, hj, hj0, hj1, hj2⟩ := info_parts infoEnt
  refine (callsIn_wide (n := 5)).1 ?_
  refine callsIn_of_wp_marks Tryd.func23 rfl trivial ?_ rfl
  simp only [Tryd.ntmps23, List.size_toArray, List.length_cons, List.length_nil, Nat.reduceAdd, Nat.reduceSub, Array.replicate_succ, Array.replicate_zero, List.push_toArray, List.append_toArray, List.nil_append, List.cons_append]
  refine wpIn_wide.2 ?_
  have heq := eqlfL (.func gf) #[] lb
  have HS := Lib.hid h
  clear h
  go_wp2_with fail
  obtain ⟨w0, hw0⟩ : ∃ w0, ((((w.alloc (.cells #[.slice none 0 0] 57)).alloc (.cells #[.slice none 0 0] 42)).alloc (.cells #[.bool false] 4)).alloc (.cells #[.slice none 0 0] 57)).alloc (.cells #[.slice none 0 0] 42) = w0 := ⟨_, rfl⟩
  rw [hw0]
  have hb0 : Below w.heap.size w w0 := by rw [← hw0]; exact (((((Below.refl _ _).alloc (Nat.le_refl _) _).alloc (by simp) _).alloc (by simp; omega) _).alloc (by simp; omega) _).alloc (by simp; omega) _
  have z0 : w0.heap.size = w.heap.size + 5 := by rw [← hw0]; simp
  have hnew : ∀ (W : World) (v : Value) (t : TypeId) (q : Nat), W.heap.size = q → Blk (W.alloc (.cells #[v] t)) q #[v] t := fun W v t q e => by rw [← e]; exact Blk.new _ _ _
  have k2 : Blk w0 w.heap.size #[.slice none 0 0] 57 := by rw [← hw0]; exact ((((hnew _ _ _ _ rfl).alloc _).alloc _).alloc _).alloc _
  have k3 : Blk w0 (w.heap.size + 1) #[.slice none 0 0] 42 := by rw [← hw0]; exact (((hnew _ _ _ _ (by simp)).alloc _).alloc _).alloc _
  have k4 : Blk w0 (w.heap.size + 1 + 1) #[.bool false] 4 := by rw [← hw0]; exact ((hnew _ _ _ _ (by simp)).alloc _).alloc _
  have k5 : Blk w0 (w.heap.size + 1 + 1 + 1) #[.slice none 0 0] 57 := by rw [← hw0]; exact (hnew _ _ _ _ (by simp)).alloc _
  have k6 : Blk w0 (w.heap.size + 1 + 1 + 1 + 1) #[.slice none 0 0] 42 := by rw [← hw0]; exact hnew _ _ _ _ (by simp)
  have hL0 : ∀ m W, Below w0.heap.size w0 W → w0.heap.size + 2 ≤ m → m ≤ W.heap.size → LRow w.heap.size m w0 [] [] W := fun m W hW _ hm => ⟨⟨_, k5.after hW, World.ownsRow_nil _ _ _ _⟩, ⟨_, k6.after hW, World.ownsRow_nil _ _ _ _⟩, k2.after hW, k3.after hW, k4.after hW, by simp, hW.mono (by omega), hW.size, hm⟩
  have HS0 := Lib.hid (HS.out w0 hb0)
  have HB0 := Lib.hid hb0
  clear hw0 hb0 HS heq hnew k2 k3 k4 k5 k6
  refine wpIn_wide (n := 5) |>.1 ?_
  refine wpIn_range_tells rfl (by omega) (gf := gf) (lb := lb) rfl trivial hgf HS0.out (fun m A B C h k => h.trans k) (fun m A B hA hb => Kept.of_below hb (by omega)) (fun m A l r o' hl h => Kept.put h (by omega) (not_plain_loop r)) (Below.refl _ _) (fun _ => rfl)
    (fun m (pre : List (Int × En)) W => LRow w.heap.size m w0 (pre.map Prod.fst) (pre.map Prod.snd) W) (fun _ _ => False)
    (fun m => LRow.own _ _ m _ (by omega)) (fun _ _ _ _ hs _ _ => hs) hL0 (fun m pre W h => h.mz) (fun x => FactIE.own _ _ x)
    27 (fun z => z.2.cs)
    (fun z Bx => { tmps := #[.func (.func gf) #[] lb, undef, .pointer (some ⟨w.heap.size, 0, none⟩), .pointer (some ⟨w.heap.size + 1, 0, none⟩), .pointer (some ⟨w.heap.size + 1 + 1, 0, none⟩), .pointer (some ⟨w.heap.size + 1 + 1 + 1, 0, none⟩), .pointer (some ⟨w.heap.size + 1 + 1 + 1 + 1, 0, none⟩), .int .i64 z.1, .pointer (some ⟨Bx, 0, none⟩), .func (.func gf) #[] lb, .bool false, .func (.func gf) #[] lb, .int .i64 z.1, entV z.2.s z.2.a z.2.ls.length z.2.cap, undef, undef, undef, undef, undef, undef, undef, undef, undef, undef, undef, undef, undef], defers := [] })
    ?assign ?body ?done ?stop
  case assign =>
    intro l pre x W K hI hK
    have hK' := Lib.hid hK
    clear hK hI
    obtain ⟨k, ⟨con, day, cur, seq, per, ref⟩, xa, xc, ls⟩ := x
    dsimp only [encIE, entV, En.cs] at hK' ⊢
    gi_wp2_with fail
    simpa using hK'.out
  case body =>
    rintro l m pre x Bx W hl1 hl2 hm2 ⟨r, hr⟩ hI hF hX hlt
    have HPs : Hid (LRow w.heap.size m w0 ((pre ++ [x]).map Prod.fst) ((pre ++ [x]).map Prod.snd) = LRow w.heap.size m w0 (pre.map Prod.fst ++ [x.1]) (pre.map Prod.snd ++ [x.2])) := by show _ = _; rw [List.map_append, List.map_append]; rfl
    have hpl : (pre.map Prod.fst).length < 200 := by rw [List.length_map]; omega
    have hpe : (pre.map Prod.snd).length < 200 := by rw [List.length_map]; omega
    have HPx : Hid (∀ W, LRow w.heap.size m w0 ((pre ++ [x]).map Prod.fst) ((pre ++ [x]).map Prod.snd) W = LRow w.heap.size m w0 (pre.map Prod.fst ++ [x.1]) (pre.map Prod.snd ++ [x.2]) W) := fun W => by rw [HPs.out]
    obtain ⟨xs, hxs⟩ : ∃ xs, pre.map Prod.fst = xs := ⟨_, rfl⟩
    obtain ⟨es, hes⟩ : ∃ es, pre.map Prod.snd = es := ⟨_, rfl⟩
    rw [hxs] at hpl hI HPx
    rw [hes] at hpe hI HPx
    clear hxs hes HPs
    obtain ⟨v5, hv5, ho5⟩ := hI.ri
    have hn : w.heap.size ≤ m := by omega
    have hmk := hI.mz
    have hc5 := hv5.cell
    have d200 : decide ((200 : Int) < (es.length : Int) + 1) = false := decide_eq_false (by omega)
    have HI := Lib.hid hI
    have HF := Lib.hid hF
    have HX := Lib.hid hX
    obtain ⟨k, ⟨con, day, cur, seq, per, ref⟩, xa, xc, ls⟩ := x
    dsimp only [encIE, entV, En.cs] at hX HX HPx ⊢
    clear hI hF hX hr
    gi_wp2_with (first
      | (gi_at_builtin; refine wpListIn_append_own _ rfl _ _ 57 rfl m 3 i0 _ 1 8 Tryd.underlying57 hi hi0 hi1 hi2 rfl (by decide) _ _ _ rfl (ho5.alloc _) ⟨W.heap.size, 0, none⟩ 1 1 [.int .i64 k] rfl rfl (World.news_of_block (cs := #[.int .i64 k]) (t := 3) (fr := (0, 0)) (heap_alloc_new W _)) (by simp [Value.oneCell']) (by unfold maxLen; omega) (by omega) (by simp; omega) ?_; intro v5' w5 hown5 hgrow5 _; obtain ⟨g5, c5, rfl⟩ := ownsRow_succ hown5; obtain ⟨hL5, hko5, hb5, hw5, hk5⟩ := HI.out.num hn (lo := w.heap.size + 5 + 2) (by omega) hv5 ho5 hown5 hgrow5; have hc5' := hw5.cell; have hf5' := hw5.frozen; obtain ⟨v6, hv6, ho6⟩ := hL5.re; obtain ⟨a6, q6, rfl, _⟩ := sl_own (enc := En.cs) En.cs_len ho6; have hc6 := hv6.cell; have hXX := hk5 _ (by decide) (by decide) _ _ _ HX.out; have hX5 : Blk _ Bx #[.int .i64 con, .int .i64 day, .int .i64 cur, .int .i64 seq, .int .i64 per, .int .i64 ref, .slice xa ls.length xc] 27 := hXX; have x0 := hX5.cell 0 rfl; have x1 := hX5.cell 1 rfl; have x2 := hX5.cell 2 rfl; have x3 := hX5.cell 3 rfl; have x4 := hX5.cell 4 rfl; have x5 := hX5.cell 5 rfl; have x6 := hX5.cell 6 rfl; have HL5 := Lib.hid hL5; have HK5 := Lib.hid hk5; clear hL5 hk5 hXX hX5 hown5 hgrow5 hc5)
      | (gi_at_builtin; refine wpListIn_append_own _ rfl _ _ 42 rfl m 27 j0 _ 7 72 Tryd.underlying42 hj hj0 hj1 hj2 rfl (by decide) _ _ _ rfl (ho6.alloc _) ⟨w5.heap.size, 0, none⟩ 1 1 [.int .i64 con, .int .i64 day, .int .i64 cur, .int .i64 seq, .int .i64 per, .int .i64 ref, .slice xa ls.length xc] rfl rfl (World.news_of_block (cs := #[.int .i64 con, .int .i64 day, .int .i64 cur, .int .i64 seq, .int .i64 per, .int .i64 ref, .slice xa ls.length xc]) (t := 27) (fr := (0, 0)) (alloc_at (by simp) _)) (by simp [Value.oneCell']) (by unfold maxLen; omega) (by omega) (by have := hb5.be.size; simp at this ⊢; omega) ?_; intro v6' w6 hown6 hgrow6 _; obtain ⟨g6, c6, rfl⟩ := ownsRow_succ hown6; have hxk := HF.out.ok.kept HF.out.ty (HK5.out _ (by decide) (by decide)); obtain ⟨hL6, hko6, hb6, hw6⟩ := HL5.out.ent hn (lo := w.heap.size + 5 + 2) (by omega) hv6 ho6 hxk hown6 hgrow6; have hc6' := hw6.cell; have hf6' := hw6.frozen; have hv6' : Boxed (w6.setCell ⟨w.heap.size + 1 + 1 + 1 + 1, 0, none⟩ (.slice (some ⟨g6, 0, none⟩) (es.length + 1) c6)) (w.heap.size + 1 + 1 + 1 + 1) 42 (.slice (some ⟨g6, 0, none⟩) (es.length + 1) c6) := hw6.set _; have hc7 := hv6'.cell; have HL6 := Lib.hid hL6; clear hL6 hown6 hgrow6 hxk hc6 x0 x1 x2 x3 x4 x5 x6))
    refine ⟨(hko5.trans hko6).from _, hb5.trans hb6, ?_⟩
    exact Eq.mpr (HPx.out _) HL6.out
  case done =>
    rintro D m zs W hD hDm hzs hI hK
    have hla : zs.length = A.length := by rw [← hzs, List.length_map]
    have hfst : zs.map Prod.fst = A.map Prod.fst := by rw [← hzs, List.map_map]; rfl
    obtain ⟨v5, hv5, ho5⟩ := hI.ri
    obtain ⟨v6, hv6, ho6⟩ := hI.re
    obtain ⟨a5, q5, rfl, _⟩ := sl_own (enc := encN) (size := 1) (fun _ => rfl) (by rw [← intsV_cells]; exact ho5)
    obtain ⟨a6, q6, rfl, _⟩ := sl_own (enc := En.cs) En.cs_len ho6
    rw [List.length_map, hla] at hv5 hv6 ho5 ho6
    have hc5 := hv5.cell
    have hc6 := hv6.cell
    have c2 : W.cell? ⟨w.heap.size, 0, none⟩ = some (.slice none 0 0) := hI.b2.cell 0 rfl
    have c3 : W.cell? ⟨w.heap.size + 1, 0, none⟩ = some (.slice none 0 0) := hI.b3.cell 0 rfl
    have c4 : W.cell? ⟨w.heap.size + 1 + 1, 0, none⟩ = some (.bool false) := hI.b4.cell 0 rfl
    have f2 := hI.b2.free 0
    have f3 := hI.b3.free 0
    have f4 := hI.b4.free 0
    have HI := Lib.hid hI
    have HO5 := Lib.hid ho5
    have HO6 := Lib.hid ho6
    have bd : Below W.heap.size W W.drew := (Below.refl _ _).drew
    have hc5' := below_cell bd hc5
    have hc6' := below_cell bd hc6
    have c2' := below_cell bd c2
    have c3' := below_cell bd c3
    have c4' := below_cell bd c4
    have f2' := (hI.b2.after bd).free 0
    have f3' := (hI.b3.after bd).free 0
    have f4' := (hI.b4.after bd).free 0
    clear hI ho5 ho6 hv5 hv6 bd
    go_wp2_with fail
    go_region
    go_wp2_with fail
    obtain ⟨WF, hWF⟩ : ∃ WF, (((W.setCell ⟨w.heap.size, 0, none⟩ (.slice a5 A.length q5)).setCell ⟨w.heap.size + 1, 0, none⟩ (.slice a6 A.length q6)).setCell ⟨w.heap.size + 1 + 1, 0, none⟩ (.bool true)).drew = WF := ⟨_, rfl⟩
    rw [hWF]
    have hDl : D < W.heap.size := (Array.getElem?_eq_some_iff.1 hK).1
    have hT : Turn [w.heap.size, w.heap.size + 1, w.heap.size + 1 + 1] W WF := by
      rw [← hWF]
      exact (((Turn.of_grown (grown_setCell _ w.heap.size 0 _) (by simp)).trans (Turn.of_grown (grown_setCell _ (w.heap.size + 1) 0 _) (by simp))).trans (Turn.of_grown (grown_setCell _ (w.heap.size + 1 + 1) 0 _) (by simp))).trans (Turn.of_below (Below.refl _ _).drew |> fun h => (⟨h.os, h.tape, h.output, h.size, h.block⟩ : Turn _ _ _))
    have hKF : WF.heap[D]? = some (.deferred (some [])) := (hT.block D hDl (by simp; omega)).trans hK
    have hT2 : Turn [w.heap.size, w.heap.size + 1, w.heap.size + 1 + 1, D] W (WF.putObj D (.deferred none)) := (hT.mono (by simp)).trans (Turn.of_grown (grownBy_putObj' _ D (.deferred none)) (by simp))
    have hb2 : Blk WF w.heap.size #[.slice a5 A.length q5] 57 := by
      rw [← hWF]
      have h1 := (HI.out.b2.set 0 (.slice a5 A.length q5)).far 0 (.slice a6 A.length q6) (show w.heap.size ≠ w.heap.size + 1 by omega)
      exact (h1.far 0 (.bool true) (show w.heap.size ≠ w.heap.size + 1 + 1 by omega)).drew
    have hb3 : Blk WF (w.heap.size + 1) #[.slice a6 A.length q6] 42 := by
      rw [← hWF]
      have h1 := (HI.out.b3.far 0 (.slice a5 A.length q5) (show w.heap.size + 1 ≠ w.heap.size by omega)).set 0 (.slice a6 A.length q6)
      exact (h1.far 0 (.bool true) (show w.heap.size + 1 ≠ w.heap.size + 1 + 1 by omega)).drew
    have hb4 : Blk WF (w.heap.size + 1 + 1) #[.bool true] 4 := by
      rw [← hWF]
      have h1 := ((HI.out.b4.far 0 (.slice a5 A.length q5) (show w.heap.size + 1 + 1 ≠ w.heap.size by omega)).far 0 (.slice a6 A.length q6) (show w.heap.size + 1 + 1 ≠ w.heap.size + 1 by omega)).set 0 (.bool true)
      exact h1.drew
    have hput : ∀ (q : Nat) (o : Obj), q ≠ D → WF.heap[q]? = some o → (WF.putObj D (.deferred none)).heap[q]? = some o := fun q o hq h => (World.putObj_heap_other hq).trans h
    have r0 : (WF.putObj D (.deferred none)).cell? ⟨w.heap.size, 0, none⟩ = some (.slice a5 A.length q5) := Blk.cell (hput _ _ (by omega) hb2) 0 rfl
    have r1 : (WF.putObj D (.deferred none)).cell? ⟨w.heap.size + 1, 0, none⟩ = some (.slice a6 A.length q6) := Blk.cell (hput _ _ (by omega) hb3) 0 rfl
    have r2 : (WF.putObj D (.deferred none)).cell? ⟨w.heap.size + 1 + 1, 0, none⟩ = some (.bool true) := Blk.cell (hput _ _ (by omega) hb4) 0 rfl
    have hkT : ∀ T : TypeId, T ≠ 57 → T ≠ 42 → T ≠ 4 → ∀ (q : Nat) (cs : Array Value) (fr : Nat × Nat), W.heap[q]? = some (.cells cs T fr) → (WF.putObj D (.deferred none)).heap[q]? = some (.cells cs T fr) := fun T h1 h2 h3 q cs fr hq => by
      refine (hT2.block q (Array.getElem?_eq_some_iff.1 hq).1 (fun hm => ?_)).trans hq
      simp only [List.mem_cons, List.not_mem_nil, or_false] at hm
      rcases hm with e | e | e | e
      · rw [e, show W.heap[w.heap.size]? = _ from HI.out.b2] at hq; cases hq; exact h1 rfl
      · rw [e, show W.heap[w.heap.size + 1]? = _ from HI.out.b3] at hq; cases hq; exact h2 rfl
      · rw [e, show W.heap[w.heap.size + 1 + 1]? = _ from HI.out.b4] at hq; cases hq; exact h3 rfl
      · rw [e, hK] at hq; cases hq
    have ho5 := own_block HO5.out (hkT _ (by decide) (by decide) (by decide))
    have ho6 := own_block HO6.out (hkT _ (by decide) (by decide) (by decide))
    rw [hfst, intsV_cells] at ho5
    have hl5 : (A.map Prod.fst).length = A.length := by simp
    have hl6 : (zs.map Prod.snd).length = A.length := by rw [List.length_map, hla]
    rw [← hl5] at ho5
    rw [← hl6] at ho6
    obtain ⟨b5, p5, e5, hs5, _⟩ := sl_own (enc := encN) (size := 1) (fun _ => rfl) ho5
    obtain ⟨b6, p6, e6, hs6, hx6⟩ := sl_own (enc := En.cs) En.cs_len ho6
    simp only [Value.slice.injEq, true_and] at e5 e6
    obtain ⟨rfl, rfl⟩ := e5
    obtain ⟨rfl, rfl⟩ := e6
    refine ⟨by simp, .inl ⟨_, _, rfl, run_takeDeferred hKF, ?_⟩⟩
    refine ⟨.tuple #[.slice a5 A.length q5, .slice a6 A.length q6, .bool true], by simp [results, Tryd.results23, go_sem, r0, r1, r2], a5, q5, a6, q6, zs, hzs, rfl, hs5, hs6, fun z hz => ((HI.out.ln z.2 (List.mem_map.2 ⟨z, hz, rfl⟩)).1.kept (HI.out.ln z.2 (List.mem_map.2 ⟨z, hz, rfl⟩)).2 (hkT _ (by decide) (by decide) (by decide))).1, (HB0.out.trans (HI.out.be.mono (Nat.le_refl _))).trans (hT2.below (by have := HI.out.b2.lt; omega) (by simp; omega)), fun x e => by have := (hx6 x e).1; omega⟩
  case stop =>
    rintro D pre W _ _ h _
    exact h.elim

end Go.Proofs.YtpinhomalmknjaaDoor
