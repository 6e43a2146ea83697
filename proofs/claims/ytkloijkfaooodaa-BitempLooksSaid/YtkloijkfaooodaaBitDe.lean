/- Package bitemp: Days. -/
import Derived.Test.YtkloijkfaooodaaBitDy
import Derived.WalkMore
namespace Go.Proofs.Ytkloijkfaooodaa
open Go.RowKit Go.Sort Go.Shelf
set_option linter.unusedVariables false
set_option linter.unusedSimpArgs false

theorem nodup_len {α : Type} : ∀ (A B : List α), A.Nodup → (∀ x ∈ A, x ∈ B) → A.length ≤ B.length
  | [], B, _, _ => Nat.zero_le _
  | a :: A, B, hn, hs => by
    haveI : DecidableEq α := fun _ _ => Classical.propDecidable _
    have h1 := List.nodup_cons.1 hn
    have ha := hs a (by simp)
    have := nodup_len A (B.erase a) h1.2 fun x hx => by
      refine (List.mem_erase_of_ne ?_).2 (hs x (by simp [hx]))
      rintro rfl
      exact h1.1 hx
    rw [List.length_erase_of_mem ha] at this
    have := List.length_pos_of_mem ha
    simp only [List.length_cons]
    omega
/-- What Days finds at a place. -/
def pickD (V : List Vs) (c : Bool) (k f t s : Int) (q : PK) : Option Vs := if q.1 = c ∧ q.2.1 = k ∧ f ≤ q.2.2 ∧ q.2.2 ≤ t then latP V q s else none
theorem pickD_some {V : List Vs} {c : Bool} {k f t s : Int} {q : PK} {x : Vs} (h : pickD V c k f t s q = some x) : x.pl = q ∧ f ≤ x.d ∧ x.d ≤ t ∧ q = (c, k, x.d) ∧ latP V (c, k, x.d) s = some x := by
  unfold pickD at h
  split at h
  · rename_i hc
    obtain ⟨_, h2, _⟩ := latP_some h
    obtain ⟨q1, q2, q3⟩ := q
    simp only at hc
    obtain ⟨rfl, rfl, h3, h4⟩ := hc
    have h5 : x.d = q3 := by simp [Vs.pl] at h2; exact h2.2.2
    subst h5
    exact ⟨h2, h3, h4, rfl, h⟩
  · cases h
def DaysP (V : List Vs) (c : Bool) (k f t s : Int) (L : List Vs) : Prop := L.Pairwise (fun a b => a.d < b.d) ∧ ∀ x, x ∈ L ↔ (f ≤ x.d ∧ x.d ≤ t ∧ latP V (c, k, x.d) s = some x)
theorem idx_mem {V : List Vs} {q : PK} (h : idxP V q ≠ []) : q ∈ V.map Vs.pl := by
  have h1 := idxP_len V q
  have h2 := List.length_pos_iff.2 h
  obtain ⟨v, hv⟩ := List.exists_mem_of_length_pos (show 0 < (ofP V q).length by omega)
  unfold ofP at hv
  rw [List.mem_filter] at hv
  exact List.mem_map.2 ⟨v, hv.1, by simpa using hv.2⟩
theorem lat_idx {V : List Vs} {q : PK} {s : Int} {x : Vs} (h : latP V q s = some x) : idxP V q ≠ [] := by
  intro h0
  have h1 := idxP_len V q
  rw [h0] at h1
  have h2 : ofP V q = [] := List.length_eq_zero_iff.1 h1.symm
  unfold latP at h
  rw [h2] at h
  cases h
theorem days_of {V : List Vs} {E dn : List (PK × Value)} {c : Bool} {k f t s : Int} {l l' : List Vs} (hn : (E.map (·.1)).Nodup) (ha : ∀ q, idxP V q ≠ [] → ∃ v, (q, v) ∈ E) (hp : E.Perm dn) (hl : l = dn.filterMap (fun e => pickD V c k f t s e.1)) (h1 : l'.Perm l) (h2 : l'.Pairwise (fun a b => ¬ b.d < a.d)) : DaysP V c k f t s l' := by
  have hn' : dn.Pairwise (fun a b => a.1 ≠ b.1) := List.pairwise_map.1 (((hp.map _).nodup_iff).1 hn)
  have hd : l.Pairwise (fun a b => a.d ≠ b.d) := by
    rw [hl, List.pairwise_filterMap]
    refine hn'.imp fun {a b} hab x hx y hy hxy => hab ?_
    have p1 := pickD_some hx
    have p2 := pickD_some hy
    rw [p1.2.2.2.1, p2.2.2.2.1, hxy]
  have hd' : l'.Pairwise (fun a b => a.d ≠ b.d) := (h1.pairwise_iff (fun {a b} h e => h e.symm)).2 hd
  refine ⟨(List.Pairwise.and hd' h2).imp fun {a b} h => by have := h.1; have := h.2; omega, fun x => ?_⟩
  rw [h1.mem_iff, hl, List.mem_filterMap]
  constructor
  · rintro ⟨e, _, he⟩
    have := pickD_some he
    exact ⟨this.2.1, this.2.2.1, this.2.2.2.2⟩
  · rintro ⟨a1, a2, a3⟩
    obtain ⟨v, hv⟩ := ha (c, k, x.d) (lat_idx a3)
    exact ⟨_, hp.mem_iff.1 hv, by unfold pickD; rw [if_pos ⟨rfl, rfl, a1, a2⟩]; exact a3⟩
theorem keys_nodup {w : World} {bm : Nat} {E : List (PK × Value)} (h : MapAt OkPk w bm (E.map entP)) : (E.map (·.1)).Nodup := by
  have h1 := h.nodup
  rw [List.map_map] at h1
  have h2 := List.pairwise_map.1 h1
  refine List.pairwise_map.2 (h2.imp fun {a b} h e => h ?_)
  show pkV a.1 = pkV b.1
  rw [e]
theorem ents_len {V : List Vs} {E : List (PK × Value)} (hn : (E.map (·.1)).Nodup) (h : ∀ e ∈ E, idxP V e.1 ≠ []) : E.length ≤ V.length := by
  have := nodup_len (E.map (·.1)) (V.map Vs.pl) hn fun q hq => by
    obtain ⟨e, he, rfl⟩ := List.mem_map.1 hq
    exact idx_mem (h e he)
  simpa using this
theorem latV_none : latV none = .tuple #[.agg #[.int .i64 0, .bool false, .int .i64 0, .int .i64 0, .int .i64 0, .int .i64 0, .int .i64 0], .bool false] := rfl
theorem latV_some (os : Int) (oc : Bool) (ok od on om op : Int) : latV (some ⟨os, oc, ok, od, on, om, op⟩) = .tuple #[.agg #[.int .i64 os, .bool oc, .int .i64 ok, .int .i64 od, .int .i64 on, .int .i64 om, .int .i64 op], .bool true] := rfl

theorem ownsRow_after {w w' : World} {base size n : Nat} {e : TypeId} {v : Value} {cs : List Value} (h : w.ownsRow base e size v n cs) (hb : RowKit.Below w.heap.size w w') : w'.ownsRow base e size v n cs := (Turn.of_below (bs := []) hb).own h (by simp)
set_option maxHeartbeats 8000000 in
set_option maxRecDepth 100000 in
theorem days_ok (base p bm : Nat) (sv : Value) (V : List Vs) (c : Bool) (k f t s : Int) (w : World) (h : StAt w base p bm sv V) (hl : V.length ≤ 2513169434900) :
    Calls Try.prog 30 #[.pointer (some ⟨p, 0, none⟩), .bool c, .int .i64 k, .int .i64 f, .int .i64 t, .int .i64 s] w (fun e w' => ∃ L, DaysP V c k f t s L ∧ SeqVEnd w L e w') := by
  obtain ⟨i0, hi, hi0, hi1, hi2⟩ := info_parts infoVer
  obtain ⟨E, hE⟩ := h.map
  have c1 : w.cell? ⟨p, 1, none⟩ = some (.map (some bm)) := h.blk.cell 1 rfl
  have HM := Lib.hid hE.map
  have HN : Hid ((E.map (·.1)).Nodup) := keys_nodup hE.map
  have HA := Lib.hid hE.all
  have HLen : Hid (E.length ≤ V.length) := ents_len HN.out (fun e he => (hE.own e he).1)
  have HSt := Lib.hid h
  have hbm := h.lt.2
  obtain ⟨g, hg⟩ : ∃ g, (fun e : PK × Value => pickD V c k f t s e.1) = g := ⟨_, rfl⟩
  have HG := Lib.hid hg
  clear h hE hg
  go_enter Try.func30, Try.ntmps30
  go_wp2_with fail
  refine wp_scope_straight ?_
  apply wp_seq
  apply wp_label
  go_wp2_with (at_range; refine wpList_maprange _ rfl _ 81 rfl Try.underlying81 rfl HM.out ?_; intro w1 hit hb1 hs1)
  obtain ⟨r, hr⟩ : ∃ r, w.heap.size = r := ⟨_, rfl⟩
  have HR := Lib.hid hr
  rw [hr] at hit hb1 hs1 hbm ⊢
  have HI1 := Lib.hid hit
  have HB1 := Lib.hid hb1
  have hr1 : r ≤ w.heap.size := by omega
  have hr2 : w.heap.size ≤ r := by omega
  clear hit hb1 HM hr c1
  go_frame
  go_loopg [13] E.length (fun n v wr => ∃ dn rest : List (PK × Value), E.Perm (dn ++ rest) ∧ n = rest.length ∧ Hid (wr.ownsRow (r + 1) 26 7 v (dn.filterMap g).length (cellsL encS (dn.filterMap g))) ∧ Hid (IterAt OkPk wr bm r (E.map entP) (rest.map entP)) ∧ Hid (RowKit.Below r w wr))
  case atStart => exact ⟨[], E, List.Perm.refl _, rfl, (show w1.ownsRow _ _ _ _ _ _ from World.ownsRow_nil _ _ _ _), HI1, HB1⟩
  case round =>
    obtain ⟨dn, rest, hp, hk, HO, HI, HB⟩ := hrel
    subst hk
    have HP := Lib.hid hp
    clear hp
    have HFl : Hid ((dn.filterMap g).length ≤ dn.length) := List.length_filterMap_le _ _
    go_wp2_with (at_next; refine wpList_mapnext _ rfl _ rfl r (rest.map entP) rfl HI.out ?_ ?_)
    · intro hnil
      obtain rfl : rest = [] := by simpa using hnil
      have HL : Hid (E.Perm dn) := by have := HP.out; rwa [List.append_nil] at this
      have hlen := HL.out.length_eq
      have hfl := HFl.out
      have hel := HLen.out
      obtain ⟨a, cap, hu, _, _, _, hax, _⟩ := owned_recs (enc := encS) (size := 7) (fun _ => rfl) HO.out rfl
      subst hu
      have HAX := Lib.hid hax
      have zr := HB.out.size
      clear hax
      go_wp2_with fail
      with_reducible refine (sortanyV (r + 1) _ _ _ HO.out (by omega)).mono ?_
      rintro e w2 ⟨rfl, a', cap', l', hv, hp1, hs1, hR1, hb1⟩
      simp only [Value.slice.injEq, true_and] at hv
      obtain ⟨rfl, rfl⟩ := hv
      have hz12 := hb1.size
      have HD : Hid (DaysP V c k f t s l') := days_of HN.out HA.out HL.out (by rw [HG.out]) hp1 hs1
      have HR1 := Lib.hid hR1
      have hlen2 := hp1.length_eq
      rw [← hlen2]
      have HB2 : Hid (RowKit.Below r w w2) := HB.out.trans (hb1.mono (by omega))
      clear hp1 hs1 hR1 hb1 HO HI HL hlen HP hlen2 HFl hfl hel
      go_wp2_with fail
      with_reducible refine (valuesV_ok _ _ _ _).mono ?_
      rintro e w3 ⟨rfl, hw3⟩
      have HW := Lib.hid hw3
      clear hw3
      go_wp2_with fail
      go_ret
      obtain rfl := HW.out
      have bb : RowKit.Below w2.heap.size w2 (w2.alloc (.cells #[.slice a l'.length cap] 35)) := (RowKit.Below.refl _ _).alloc (Nat.le_refl _) _
      have z2 := HB2.out.size
      refine ⟨l', HD.out, w2.heap.size, rfl, ⟨a, cap, Blk.new _ _ _, HR1.out.after bb, by simp, fun x e => by have := (HAX.out x e).2; simp; omega⟩, (HB2.out.trans (bb.mono (by omega))).mono hr2, by omega⟩
    · intro x v lf wr2 hp2 hit2 hg2 hs2 hent
      haveI : DecidableEq (PK × Value) := fun _ _ => Classical.propDecidable _
      obtain ⟨z, rest', hq, hz, hlf⟩ := left_cons hp2
      have HI2 := Lib.hid (hit2.perm hlf)
      obtain ⟨⟨zc, zk, zd⟩, zv⟩ := z
      obtain ⟨rfl, rfl⟩ := Prod.mk.inj hz
      clear hz hlf hit2 hp2
      have he2 := hent wr2 rfl rfl
      clear hent
      have hlen : dn.length + rest'.length + 1 = E.length := by have := HP.out.length_eq; have := hq.length_eq; simp only [List.length_append, List.length_cons] at *; omega
      have HO2 := Lib.hid (own_kept HO.out hg2 (fun g hg e => by have := (own_base HO.out hg).1; cases e; omega))
      have HB2 : Hid (RowKit.Below r w wr2) := HB.out.grown hg2 (by have := HB.out.size; omega) (fun k e => by cases e; exact Nat.le_refl _)
      have HP2 : Hid (E.Perm ((dn ++ [((zc, zk, zd), zv)]) ++ rest')) := by have := HP.out.trans (hq.append_left dn); show List.Perm _ _; simpa using this
      have hz2 : r < wr2.heap.size := HI2.out.lt
      have hrl : rest'.length < rest.length := by have := hq.length_eq; simp only [List.length_cons] at this; omega
      have HGz0 : Hid (g ((zc, zk, zd), zv) = pickD V c k f t s (zc, zk, zd)) := by show _ = _; rw [← HG.out]
      clear hq hg2 hs2 HO HI HB HP
      dsimp only [entP, pkV] at he2 ⊢
      obtain ⟨w3, hw3⟩ : ∃ W, wr2.alloc (.cells #[.bool zc, .int .i64 zk, .int .i64 zd] 93) = W := ⟨_, rfl⟩
      have hb3 : RowKit.Below wr2.heap.size wr2 w3 := by rw [← hw3]; exact (RowKit.Below.refl _ _).alloc (Nat.le_refl _) _
      have KP : Blk w3 wr2.heap.size #[.bool zc, .int .i64 zk, .int .i64 zd] 93 := by rw [← hw3]; exact Blk.new _ _ _
      have HO3 := Lib.hid (ownsRow_after HO2.out hb3)
      have HI3 := Lib.hid (HI2.out.after hb3)
      have HB3 : Hid (RowKit.Below r w w3) := HB2.out.trans (hb3.mono (by omega))
      have HW3 := Lib.hid hw3
      have p0 : w3.cell? ⟨wr2.heap.size, 0, none⟩ = some (.bool zc) := KP.cell 0 rfl
      have p1 : w3.cell? ⟨wr2.heap.size, 1, none⟩ = some (.int .i64 zk) := KP.cell 1 rfl
      have p2 : w3.cell? ⟨wr2.heap.size, 2, none⟩ = some (.int .i64 zd) := KP.cell 2 rfl
      rw [← hw3] at p0 p1 p2
      clear hw3 hb3 KP HO2 HI2 HB2
      by_cases h1 : c = zc
      case neg =>
        have HGz : Hid (g ((zc, zk, zd), zv) = none) := HGz0.out.trans (by unfold pickD; rw [if_neg (fun h => h1 h.1.symm)])
        have e1 : (zc == c) = false := by rw [beq_eq_false_iff_ne]; exact fun e => h1 e.symm
        have e1' : (zc != c) = true := by rw [bne, e1]; rfl
        clear h1 HGz0
        have HL3 : Hid (w3.ownsRow (r + 1) 26 7 u13 ((dn ++ [((zc, zk, zd), zv)]).filterMap g).length (cellsL encS ((dn ++ [((zc, zk, zd), zv)]).filterMap g))) := by
          show World.ownsRow _ _ _ _ _ _ _
          rw [List.filterMap_append, List.filterMap_cons, HGz.out, List.filterMap_nil, List.append_nil]
          exact HO3.out
        go_wp2_with fail
        rw [HW3.out]
        go_roundg rest'.length
        case measure => omega
        case rel => exact ⟨_, rest', HP2.out, rfl, HL3, HI3, HB3⟩
      subst h1
      by_cases h2 : k = zk
      case neg =>
        have HGz : Hid (g ((c, zk, zd), zv) = none) := HGz0.out.trans (by unfold pickD; rw [if_neg (fun h => h2 h.2.1.symm)])
        have e1 : (zk == k) = false := by rw [beq_eq_false_iff_ne]; exact fun e => h2 e.symm
        have e1' : (zk != k) = true := by rw [bne, e1]; rfl
        clear h2 HGz0
        have HL3 : Hid (w3.ownsRow (r + 1) 26 7 u13 ((dn ++ [((c, zk, zd), zv)]).filterMap g).length (cellsL encS ((dn ++ [((c, zk, zd), zv)]).filterMap g))) := by
          show World.ownsRow _ _ _ _ _ _ _
          rw [List.filterMap_append, List.filterMap_cons, HGz.out, List.filterMap_nil, List.append_nil]
          exact HO3.out
        go_wp2_with fail
        rw [HW3.out]
        go_roundg rest'.length
        case measure => omega
        case rel => exact ⟨_, rest', HP2.out, rfl, HL3, HI3, HB3⟩
      subst h2
      by_cases h3 : zd < f
      case pos =>
        have HGz : Hid (g ((c, k, zd), zv) = none) := HGz0.out.trans (by unfold pickD; rw [if_neg (fun h => by have := h.2.2.1; simp only at this; omega)])
        have e1 : decide (zd < f) = true := decide_eq_true h3
        clear h3 HGz0
        have HL3 : Hid (w3.ownsRow (r + 1) 26 7 u13 ((dn ++ [((c, k, zd), zv)]).filterMap g).length (cellsL encS ((dn ++ [((c, k, zd), zv)]).filterMap g))) := by
          show World.ownsRow _ _ _ _ _ _ _
          rw [List.filterMap_append, List.filterMap_cons, HGz.out, List.filterMap_nil, List.append_nil]
          exact HO3.out
        go_wp2_with fail
        rw [HW3.out]
        go_roundg rest'.length
        case measure => omega
        case rel => exact ⟨_, rest', HP2.out, rfl, HL3, HI3, HB3⟩
      have e1 : decide (zd < f) = false := decide_eq_false h3
      by_cases h4 : t < zd
      case pos =>
        have HGz : Hid (g ((c, k, zd), zv) = none) := HGz0.out.trans (by unfold pickD; rw [if_neg (fun h => by have := h.2.2.2; simp only at this; omega)])
        have e2 : decide (t < zd) = true := decide_eq_true h4
        clear h3 h4 HGz0
        have HL3 : Hid (w3.ownsRow (r + 1) 26 7 u13 ((dn ++ [((c, k, zd), zv)]).filterMap g).length (cellsL encS ((dn ++ [((c, k, zd), zv)]).filterMap g))) := by
          show World.ownsRow _ _ _ _ _ _ _
          rw [List.filterMap_append, List.filterMap_cons, HGz.out, List.filterMap_nil, List.append_nil]
          exact HO3.out
        go_wp2_with fail
        rw [HW3.out]
        go_roundg rest'.length
        case measure => omega
        case rel => exact ⟨_, rest', HP2.out, rfl, HL3, HI3, HB3⟩
      have e2 : decide (t < zd) = false := decide_eq_false h4
      have HGl : Hid (g ((c, k, zd), zv) = latP V (c, k, zd) s) := HGz0.out.trans (by unfold pickD; rw [if_pos ⟨rfl, rfl, by simp only; omega, by simp only; omega⟩])
      clear h3 h4 HGz0
      go_wp2_with fail
      rw [HW3.out]
      clear p0 p1 p2
      with_reducible refine (lat_ok base p bm sv V c k zd s w3 (HSt.out.after (by rw [HR.out]; exact HB3.out)) (by omega)).mono ?_
      rintro e w4 ⟨rfl, hb4⟩
      have HO4 := Lib.hid (ownsRow_after HO3.out hb4)
      have HI4 := Lib.hid (HI3.out.after hb4)
      have HB4 : Hid (RowKit.Below r w w4) := HB3.out.trans (hb4.mono (by have := HB3.out.size; omega))
      have z4 : r < w4.heap.size := HI4.out.lt
      clear hb4 e1 e2 HO3 HI3 HB3
      cases ho : latP V (c, k, zd) s with
      | none =>
        rw [latV_none]
        have HL5 : Hid ((w4.alloc (.cells #[.int .i64 0, .bool false, .int .i64 0, .int .i64 0, .int .i64 0, .int .i64 0, .int .i64 0] 26)).ownsRow (r + 1) 26 7 u13 ((dn ++ [((c, k, zd), zv)]).filterMap g).length (cellsL encS ((dn ++ [((c, k, zd), zv)]).filterMap g))) := by
          show World.ownsRow _ _ _ _ _ _ _
          rw [List.filterMap_append, List.filterMap_cons, HGl.out, ho, List.filterMap_nil, List.append_nil]
          exact HO4.out.alloc _
        have bb := (RowKit.Below.refl w4.heap.size w4).alloc (Nat.le_refl _) (.cells #[.int .i64 0, .bool false, .int .i64 0, .int .i64 0, .int .i64 0, .int .i64 0, .int .i64 0] 26)
        have HI5 := Lib.hid (HI4.out.after bb)
        have HB5 : Hid (RowKit.Below r w _) := HB4.out.trans (bb.mono (by omega))
        clear bb ho
        go_wp2_with fail
        go_roundg rest'.length
        case measure => omega
        case rel => exact ⟨_, rest', HP2.out, rfl, HL5, HI5, HB5⟩
      | some o =>
        obtain ⟨xs, xc, xk, xd, xn, xm, xp⟩ := o
        rw [latV_some]
        have HGo : Hid (g ((c, k, zd), zv) = some ⟨xs, xc, xk, xd, xn, xm, xp⟩) := HGl.out.trans ho
        have hfl := HFl.out
        have hel := HLen.out
        clear ho HGl
        go_wp2_with (at_builtin; refine wpList_append_own _ rfl _ _ 35 rfl (r + 1) 26 i0 _ 7 56 Try.underlying35 hi hi0 hi1 hi2 rfl (by decide) _ (dn.filterMap g).length _ rfl ((HO4.out.alloc _).alloc _) ⟨w4.heap.size + 1, 0, none⟩ 1 1 [.int .i64 xs, .bool xc, .int .i64 xk, .int .i64 xd, .int .i64 xn, .int .i64 xm, .int .i64 xp] rfl rfl (World.news_of_block (cs := #[.int .i64 xs, .bool xc, .int .i64 xk, .int .i64 xd, .int .i64 xn, .int .i64 xm, .int .i64 xp]) (t := 26) (fr := (0, 0)) (alloc_at (by simp))) (by simp [Value.oneCell']) (by unfold maxLen; omega) (by omega) (by simp; omega) ?_; intro v' w5 hown' hgrow _)
        have hr3 : ∀ {g}, u13.ownBlock = some g → r + 1 ≤ g ∧ g < w4.heap.size := fun h => own_base HO4.out h
        have HL5 : Hid (w5.ownsRow (r + 1) 26 7 v' ((dn ++ [((c, k, zd), zv)]).filterMap g).length (cellsL encS ((dn ++ [((c, k, zd), zv)]).filterMap g))) := by
          show World.ownsRow _ _ _ _ _ _ _
          rw [List.filterMap_append, List.filterMap_cons, HGo.out, List.filterMap_nil, List.length_append, cellsL_snoc]
          exact hown'
        have hB5 := (((RowKit.Below.refl w4.heap.size w4).alloc (Nat.le_refl _) (.cells #[.int .i64 xs, .bool xc, .int .i64 xk, .int .i64 xd, .int .i64 xn, .int .i64 xm, .int .i64 xp] 26)).alloc (by simp) (.cells #[.int .i64 xs, .bool xc, .int .i64 xk, .int .i64 xd, .int .i64 xn, .int .i64 xm, .int .i64 xp] 26))
        have HI5 : Hid (IterAt OkPk w5 bm r (E.map entP) (rest'.map entP)) := (HI4.out.after hB5).kept hgrow (fun e => by have := (hr3 e).1; omega) (fun e => by have := (hr3 e).1; omega)
        have HB5 : Hid (RowKit.Below r w w5) := (HB4.out.trans (hB5.mono (by omega))).grown hgrow (by have := hB5.size; omega) (fun k e => by have := (hr3 e).1; omega)
        clear hr3 hB5 hown' hgrow
        go_roundg rest'.length
        case measure => omega
        case rel => exact ⟨_, rest', HP2.out, rfl, HL5, HI5, HB5⟩

end Go.Proofs.Ytkloijkfaooodaa
