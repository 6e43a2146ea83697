/- Package adjust: Apply. -/
import Derived.Test.YtmjgcenhgpkhiaaAdN
namespace Go.Proofs.Ytmjgcenhgpkhiaa
open Go.RowKit Go.Sort Go.Shelf
set_option linter.unusedVariables false
set_option linter.unusedSimpArgs false

def entN (p : KD × Int) : Value × Value := (plV p.1, .int .i64 p.2)
theorem entN_keys (N : List (KD × Int)) : (N.map entN).map (·.1) = (N.map (·.1)).map plV := by rw [List.map_map, List.map_map]; rfl
theorem lessKey_entN (k : KD) (N : List (KD × Int)) : lessKey (plV k) (N.map entN) = (N.filter fun p => decide (p.1 ≠ k)).map entN := by
  unfold lessKey
  rw [List.filter_map]
  congr 1
  refine List.filter_congr fun c _ => ?_
  by_cases h : c.1 = k
  · simp [h, entN]
  · have : plV c.1 ≠ plV k := fun e => h (plV_inj e)
    simp [h, this, entN]
theorem lessKey_entL (k : KD) (L : List Lv) : lessKey (plV k) (L.map entL) = (L.filter fun p => decide (p.ky ≠ k)).map entL := by
  unfold lessKey
  rw [List.filter_map]
  congr 1
  refine List.filter_congr fun c _ => ?_
  by_cases h : c.ky = k
  · simp [h, entL]
  · have : plV c.ky ≠ plV k := fun e => h (plV_inj e)
    simp [h, this, entL]
theorem updN_ent (N : List (KD × Int)) (c : Cg) : (updN N c).map entN = (plV c.ky, .int .i64 c.n) :: lessKey (plV c.ky) (N.map entN) := by
  rw [lessKey_entN]
  rfl
theorem lessKey_newL {k : KD} {L : List Lv} (h : ∀ x ∈ L, x.ky ≠ k) : lessKey (plV k) (L.map entL) = L.map entL := by
  rw [lessKey_entL, List.filter_eq_self.2 fun x hx => by simpa using h x hx]
theorem lessKey_newN {k : KD} {N : List (KD × Int)} (h : ∀ x ∈ N, x.1 ≠ k) : lessKey (plV k) (N.map entN) = N.map entN := by
  rw [lessKey_entN, List.filter_eq_self.2 fun x hx => by simpa using h x hx]
theorem foldN_len (N : List (KD × Int)) : ∀ cs : List Cg, (cs.foldl updN N).length ≤ N.length + cs.length
  | [] => Nat.le_refl _
  | c :: cs => by
    have h1 := foldN_len (updN N c) cs
    have h2 : (updN N c).length ≤ N.length + 1 := by
      unfold updN
      have := List.length_filter_le (fun p : KD × Int => decide (p.1 ≠ c.ky)) N
      simp only [List.length_cons]
      omega
    simp only [List.foldl_cons, List.length_cons]
    omega
/-- What is still to come, and what came. -/
def LvLeft (l pre : List Lv) (left : List (Value × Value)) : Prop := ∃ rest : List Lv, left.Perm (rest.map entL) ∧ (pre ++ rest).Perm l
theorem LvLeft.done {l pre : List Lv} (h : LvLeft l pre []) : pre.Perm l := by
  obtain ⟨rest, h1, h2⟩ := h
  have : rest = [] := by
    have := h1.length_eq
    exact List.length_eq_zero_iff.1 (by simpa using this.symm)
  subst this
  simpa using h2
theorem LvLeft.step {l pre : List Lv} {left lf : List (Value × Value)} {x v : Value} (h : LvLeft l pre left) (hp : left.Perm ((x, v) :: lf)) : ∃ z : Lv, (x, v) = entL z ∧ LvLeft l (pre ++ [z]) lf := by
  obtain ⟨rest, h1, h2⟩ := h
  have h3 : ((x, v) :: lf).Perm (rest.map entL) := hp.symm.trans h1
  obtain ⟨k, hk, e⟩ := List.mem_map.1 (h3.mem_iff.1 (List.mem_cons_self ..))
  have h4 : rest.Perm (k :: rest.erase k) := List.perm_cons_erase hk
  refine ⟨k, e.symm, ⟨rest.erase k, ?_, ?_⟩⟩
  · have h5 : ((x, v) :: lf).Perm ((x, v) :: (rest.erase k).map entL) := h3.trans (by have := h4.map entL; rw [List.map_cons, e] at this; exact this)
    exact List.Perm.cons_inv h5
  · rw [List.append_assoc, List.singleton_append]
    exact (h4.symm.append_left pre).trans h2
def ApEnd (w : World) (f : List Fl) (n : Int) (e : Ending) (w' : World) : Prop :=
  ∃ a cap, e = .returned (.tuple #[.slice a f.length cap, .int .i64 n]) ∧ SlAt w' 3 encW a cap f ∧ Below w.heap.size w w'
def apF (l : List Lv) (f : List Fl) : List Fl := if ckE l = 0 then f else []
structure LRel (w2 wr : World) (bt : Nat) (L : List Lv) : Prop where
  map : MapAt OkPl wr bt (L.map entL)
  turn : Turn [bt] w2 wr
structure NRel (w4 wr : World) (bt bn r : Nat) (l pre : List Lv) (left : List (Value × Value)) : Prop where
  it : IterAt OkPl wr bt r (l.reverse.map entL) left
  ll : LvLeft l pre left
  map : MapAt OkPl wr bn ((pre.reverse.map liveN).map entN)
  turn : Turn [bn, r] w4 wr
structure CRel (w6 wr : World) (bn bs : Nat) (N : List (KD × Int)) (S : List KD) : Prop where
  now : MapAt OkPl wr bn (N.map entN)
  seen : MapAt OkPl wr bs (setM plV S)
  turn : Turn [bn, bs] w6 wr
theorem pre_new {l pre : List Lv} {z : Lv} {lf : List (Value × Value)} (hl : (l.map Lv.ky).Nodup) (h : LvLeft l (pre ++ [z]) lf) : ∀ x ∈ pre, x.ky ≠ z.ky := by
  obtain ⟨rest, _, h2⟩ := h
  have h3 := ((h2.map Lv.ky).nodup_iff).2 hl
  rw [List.append_assoc, List.map_append] at h3
  intro x hx
  exact (List.nodup_append.1 h3).2.2 x.ky (List.mem_map_of_mem hx) z.ky (by simp)
set_option maxHeartbeats 8000000 in
set_option maxRecDepth 100000 in
theorem apply_ok (a : Option Addr) (cap : Nat) (l : List Lv) (a' : Option Addr) (cap' : Nat) (cs : List Cg) (f : List Fl) (w : World) (h : SlG w 4 encL a cap l) (h' : SlG w 5 encG a' cap' cs) (hl : l.length ≤ 1000) (hc : cs.length ≤ 2000) (hwf : ∀ x ∈ l, (Lit.int .i64 x.no).wf = true) (hp : ckE l = 0 → ordB f = true ∧ IsPlan l f cs) :
    Calls Try.prog 17 #[.slice a l.length cap, .slice a' cs.length cap'] w (ApEnd w (apF l f) (ckE l)) := by
  have hmm := @run_makeMap Try.prog
  obtain ⟨i0, hi, hz0, hz1, hz2⟩ := info_parts infoFl
  have H := Lib.hid h
  have H' := Lib.hid h'
  have HCk := Lib.hid (check_ok a cap l w h hl hwf)
  have HP := Lib.hid hp
  clear h h' hwf hp
  go_enter Try.func17, Try.ntmps17
  go_wp2_with fail
  with_reducible refine HCk.out.mono ?_
  rintro e w1 ⟨rfl, hb1⟩
  by_cases hck : ckE l ≠ 0
  · have d1 : (ckE l == 0) = false := by rw [beq_eq_false_iff_ne]; exact hck
    have HF : Hid (ApEnd w (apF l f) (ckE l) (.returned (.tuple #[.slice none 0 0, .int .i64 (ckE l)])) w1) := show ApEnd _ _ _ _ _ from ⟨none, 0, by unfold apF; rw [if_neg hck]; rfl, by unfold apF; rw [if_neg hck]; exact SlAt.nil _, hb1⟩
    obtain ⟨E, hE⟩ : ∃ E, ckE l = E := ⟨_, rfl⟩
    have HF2 : Hid (ApEnd w (apF l f) (ckE l) (.returned (.tuple #[.slice none 0 0, .int .i64 E])) w1) := by rw [← hE]; exact HF
    rw [hE] at d1 ⊢
    clear hck hE HCk HF
    go_wp2_with fail
    go_ret2
    exact HF2.out
  replace hck : ckE l = 0 := Decidable.of_not_not hck
  have hap : apF l f = f := if_pos hck
  rw [hck]
  have HFin : Hid (∀ e w', ApEnd w f 0 e w' → ApEnd w (apF l f) (ckE l) e w') := fun e w' h => by rw [hap, hck]; exact h
  clear hap
  obtain ⟨hob, hpl⟩ := HP.out hck
  have HCk0 := Lib.hid hck
  have HOb := Lib.hid hob
  have HPl := Lib.hid hpl
  have HNd := Lib.hid (ckE_ok hck).2.2.1
  obtain ⟨w2, hw2⟩ : ∃ W, w1.alloc (.map #[] 0) = W := ⟨_, rfl⟩
  have hb2 : Below w1.heap.size w1 w2 := by rw [← hw2]; exact (Below.refl _ _).alloc (Nat.le_refl _) _
  have z2 : w2.heap.size = w1.heap.size + 1 := by rw [← hw2]; simp
  have m2 : MapAt OkPl w2 w1.heap.size [] := by rw [← hw2]; exact MapAt.made OkPl w1
  have HRel0 : Hid (LRel w2 w2 w1.heap.size (l.take 0).reverse) := ⟨by simpa using m2, Turn.refl _ _⟩
  have HB2 : Hid (Below w.heap.size w w2) := hb1.trans (hb2.mono hb1.size)
  have HW2 := Lib.hid hw2
  have zw1 := hb1.size
  obtain ⟨bt, hbt⟩ : ∃ b, w1.heap.size = b := ⟨_, rfl⟩
  rw [hbt] at HRel0 z2 zw1
  have hbt1 : bt ≤ w1.heap.size := by omega
  have hbt2 : w1.heap.size ≤ bt := by omega
  have HSl : Hid (∀ wr bs, Turn bs w2 wr → (∀ b ∈ bs, bt ≤ b) → SlG wr 4 encL a cap l ∧ SlG wr 5 encG a' cap' cs ∧ Below w.heap.size w wr) := fun wr bs ht hbs => by
    have hb := HB2.out.trans (ht.below (N := w.heap.size) (by omega) (fun b hb => by have := hbs b hb; omega))
    exact ⟨H.out.after hb, H'.out.after hb, hb⟩
  have HBt := Lib.hid hbt
  clear hck hb1 HCk hob hpl hb2 m2 hw2 HP hbt
  go_wp2_with fail
  rw [HW2.out, HBt.out]
  go_loopw [30] (fun i wr => ∃ j : Nat, j ≤ l.length ∧ i = .int .i64 j ∧ Hid (LRel w2 wr bt (l.take j).reverse)) (fun i _ => l.length - (intOf i).toNat)
  case atStart => exact ⟨0, by omega, rfl, HRel0.out⟩
  case round =>
    obtain ⟨j, hj, rfl, HQ⟩ := hrel
    by_cases hlt : j < l.length
    · have hx := List.getElem?_eq_getElem hlt
      obtain ⟨x, hy⟩ : ∃ x, l[j] = x := ⟨_, rfl⟩
      rw [hy] at hx
      have hTk : l.take (j + 1) = l.take j ++ [x] := by rw [List.take_succ_eq_append_getElem hlt, hy]
      have hS := (HSl.out wr _ HQ.out.turn (by simp)).1
      rcases hS.sh with rfl | ⟨b, o, rfl, hbl⟩
      · exact absurd hlt (by simp)
      have hkx : ∀ z ∈ (l.take j).reverse, z.ky ≠ x.ky := fun z hz e => by
        rw [List.mem_reverse] at hz
        have hn := HNd.out
        obtain ⟨i, hi', e1⟩ := List.getElem_of_mem hz
        rw [List.length_take] at hi'
        have h3 : (l.map Lv.ky)[i]? = (l.map Lv.ky)[j]? := by
          rw [List.getElem?_map, List.getElem?_map, hx, List.getElem?_eq_getElem (show i < l.length by omega)]
          rw [List.getElem_take] at e1
          rw [e1]
          simp [e]
        have := (List.getElem?_inj (by simp; omega) hn).1 h3
        omega
      obtain ⟨xn, xd, xc, xa⟩ := x
      have p0 : wr.cell? ⟨b, o + j * 4, none⟩ = some (.int .i64 xn) := RecsAt.cell hS.recs rfl hlt hx (j := 0) rfl
      have p1 : wr.cell? ⟨b, o + j * 4 + 1, none⟩ = some (.int .i64 xd) := RecsAt.cell hS.recs rfl hlt hx (j := 1) rfl
      have p2 : wr.cell? ⟨b, o + j * 4 + 2, none⟩ = some (.int .i64 xc) := RecsAt.cell hS.recs rfl hlt hx (j := 2) rfl
      have p3 : wr.cell? ⟨b, o + j * 4 + 3, none⟩ = some (.int .i64 xa) := RecsAt.cell hS.recs rfl hlt hx (j := 3) rfl
      have i1 : (0 : Int) ≤ (j : Int) := by omega
      have i2 : (j : Int) < (l.length : Int) := by omega
      have HStep : Hid (∀ wn, MapAt OkPl wn bt ((plV (xd, xc), .agg #[.int .i64 xn, .int .i64 xd, .int .i64 xc, .int .i64 xa]) :: lessKey (plV (xd, xc)) ((l.take j).reverse.map entL)) → Turn [bt] wr wn → LRel w2 wn bt (l.take (j + 1)).reverse) := fun wn hm ht => by
        rw [lessKey_newL (k := (xd, xc)) hkx] at hm
        refine ⟨?_, HQ.out.turn.trans ht⟩
        rw [hTk, List.reverse_append]
        exact hm
      have hb5 : Below wr.heap.size wr (wr.alloc (.cells #[.int .i64 xn, .int .i64 xd, .int .i64 xc, .int .i64 xa] 42)) := (Below.refl _ _).alloc (Nat.le_refl _) _
      have HM5 := Lib.hid (HQ.out.map.after hb5)
      have HB5 := Lib.hid hb5
      clear hx hy hTk hS hkx HQ hb5
      go_wp2_with (at_mapUpdate; refine wpList_store _ rfl _ _ _ 67 rfl keyP Try.underlying67 rfl HM5.out (plV (xd, xc)) (.agg #[.int .i64 xn, .int .i64 xd, .int .i64 xc, .int .i64 xa]) rfl rfl ⟨_, rfl⟩ ?_; intro w6 hm6 hg6 hs6)
      have HN := Lib.hid (HStep.out w6 hm6 ((Turn.of_below HB5.out).trans (Turn.of_grown (bs := [bt]) hg6 (by simp) |> fun h => (⟨h.os, h.tape, h.output, h.size, h.block⟩ : Turn _ _ _))))
      clear hm6 hg6 hs6 HStep HM5 HB5
      go_roundw
      case rel => exact ⟨j + 1, by omega, by go_num, HN.out⟩
      case measure => simp [intOf]; omega
    · obtain rfl : j = l.length := by omega
      rw [List.take_length] at HQ
      have z3 := HQ.out.turn.size
      have HM3 : Hid (MapAt OkPl (wr.alloc (.map #[] 0)) bt (l.reverse.map entL)) := HQ.out.map.after ((Below.refl _ _).alloc (Nat.le_refl _) _)
      have HN3 : Hid (MapAt OkPl (wr.alloc (.map #[] 0)) wr.heap.size []) := MapAt.made OkPl wr
      have HB3 : Hid (Below wr.heap.size wr (wr.alloc (.map #[] 0))) := (Below.refl _ _).alloc (Nat.le_refl _) _
      go_wp2_with (at_range; refine wpList_maprange _ rfl _ 67 rfl Try.underlying67 rfl HM3.out ?_; intro w4 hit hb4 hs4)
      rw [World.size_alloc] at hit hs4
      obtain ⟨bn, hbn⟩ : ∃ b, wr.heap.size = b := ⟨_, rfl⟩
      have hn4 := HN3.out.after hb4
      have hb34 : Below wr.heap.size wr w4 := HB3.out.trans (hb4.mono HB3.out.size)
      have HT4 : Hid (Turn [bt] w2 w4) := HQ.out.turn.trans (Turn.of_below hb34)
      rw [hbn] at hit hs4 hn4
      have zbn : bt < bn := by omega
      have HNR : Hid (NRel w4 w4 bt bn (bn + 1) l [] (l.reverse.map entL)) := ⟨hit, ⟨l.reverse, List.Perm.refl _, by simp⟩, by simpa using hn4, Turn.refl _ _⟩
      simp only [World.size_alloc, hbn]
      have hbn1 : bn ≤ wr.heap.size := by omega
      have hbn2 : wr.heap.size ≤ bn := by omega
      clear HQ HM3 HN3 HB3 hit hb4 hn4 hb34 hbn HRel0
      go_frame
      go_loopw [45] (fun _ wr => ∃ pre left, Hid (NRel w4 wr bt bn (bn + 1) l pre left)) (fun _ wr => wr.rangeLeft bt (bn + 1))
      case atStart => exact ⟨[], _, HNR.out⟩
      case round =>
        obtain ⟨pre, left, HQ⟩ := hrel
        go_wp2_with (at_next; refine wpList_mapnext _ rfl _ rfl (bn + 1) left rfl HQ.out.it ?_ ?_)
        · intro hnil
          obtain rfl := hnil
          have hQ := HQ.out
          have hpp := hQ.ll.done
          have HPp : Hid (pre.reverse.Perm l) := (List.reverse_perm pre).trans hpp
          have HNf := Lib.hid (now_fold (l := pre.reverse) (((HPp.out.map Lv.ky).nodup_iff).2 HNd.out) cs HPl.out.keys)
          have htw : Turn [bt, bn, bn + 1] w2 wr := (HT4.out.mono (by simp)).trans (hQ.turn.mono (by simp))
          have z5 := hQ.turn.size
          have zz : bn + 1 < w4.heap.size := hQ.it.lt |> fun _ => by omega
          have hb6 : Below wr.heap.size wr (wr.alloc (.map #[] 0)) := (Below.refl _ _).alloc (Nat.le_refl _) _
          obtain ⟨w6, hw6⟩ : ∃ W, wr.alloc (.map #[] 0) = W := ⟨_, rfl⟩
          obtain ⟨bs, hbs⟩ : ∃ b, wr.heap.size = b := ⟨_, rfl⟩
          have zbs : bn + 1 < bs := by omega
          have hm6 : MapAt OkPl w6 bs [] := by rw [← hw6, ← hbs]; exact MapAt.made OkPl wr
          rw [hw6] at hb6
          have HR6 : Hid (CRel w6 w6 bn bs ((cs.take 0).foldl updN (pre.reverse.map liveN)) ((cs.take 0).map Cg.ky).reverse) := ⟨by simpa using hQ.map.after hb6, by simpa [setM] using hm6, Turn.refl _ _⟩
          have HT6 : Hid (Turn [bt, bn, bn + 1] w2 w6) := htw.trans (Turn.of_below hb6)
          have HM6 : Hid (MapAt OkPl w6 bt (l.reverse.map entL)) := hQ.it.map.after hb6
          have HW6 := Lib.hid hw6
          have HBs := Lib.hid hbs
          have z6 : w6.heap.size = bs + 1 := by rw [← hw6, ← hbs]; simp
          have zbt6 : bt < bs := by omega
          have zbn6 : bn < bs := by omega
          clear HQ hQ hpp htw hb6 hm6 hw6 hbs HNR HT4
          go_wp2_with fail
          rw [HW6.out, HBs.out]
          go_loopw [57] (fun i wr => ∃ j : Nat, j ≤ cs.length ∧ i = .int .i64 j ∧ Hid (CRel w6 wr bn bs ((cs.take j).foldl updN (pre.reverse.map liveN)) ((cs.take j).map Cg.ky).reverse)) (fun i _ => cs.length - (intOf i).toNat)
          case atStart => exact ⟨0, by omega, rfl, HR6.out⟩
          case round =>
            obtain ⟨j, hj, rfl, HQ⟩ := hrel
            by_cases hlt : j < cs.length
            · have hx := List.getElem?_eq_getElem hlt
              obtain ⟨x, hy⟩ : ∃ x, cs[j] = x := ⟨_, rfl⟩
              rw [hy] at hx
              have hTk : cs.take (j + 1) = cs.take j ++ [x] := by rw [List.take_succ_eq_append_getElem hlt, hy]
              have htw : Turn [bt, bn, bn + 1, bs] w2 wr := (HT6.out.mono (fun x hx => by simp at hx ⊢; omega)).trans (HQ.out.turn.mono (fun x hx => by simp at hx ⊢; omega))
              obtain ⟨hSl, hS, hbw⟩ := HSl.out wr _ htw (by simp; omega)
              rcases hS.sh with rfl | ⟨b, o, rfl, hbl⟩
              · exact absurd hlt (by simp)
              have hfit : FitC l x := plan_fits HCk0.out HPl.out x (by rw [← hy]; exact List.getElem_mem _)
              have hnew : ∀ z ∈ cs.take j, z.ky ≠ x.ky := fun z hz e => by
                have hn := HPl.out.keys
                obtain ⟨i, hi', e1⟩ := List.getElem_of_mem hz
                rw [List.length_take] at hi'
                have h3 : (cs.map Cg.ky)[i]? = (cs.map Cg.ky)[j]? := by
                  rw [List.getElem?_map, List.getElem?_map, hx, List.getElem?_eq_getElem (show i < cs.length by omega)]
                  rw [List.getElem_take] at e1
                  rw [e1]
                  simp [e]
                have := (List.getElem?_inj (by simp; omega) hn).1 h3
                omega
              have hMt : MapAt OkPl wr bt (l.reverse.map entL) := HM6.out.block (HQ.out.turn.block bt (by omega) (by simp; omega))
              obtain ⟨xn, xd, xc, xo, xw⟩ := x
              have p0 : wr.cell? ⟨b, o + j * 5, none⟩ = some (.int .i64 xn) := RecsAt.cell hS.recs rfl hlt hx (j := 0) rfl
              have p1 : wr.cell? ⟨b, o + j * 5 + 1, none⟩ = some (.int .i64 xd) := RecsAt.cell hS.recs rfl hlt hx (j := 1) rfl
              have p2 : wr.cell? ⟨b, o + j * 5 + 2, none⟩ = some (.int .i64 xc) := RecsAt.cell hS.recs rfl hlt hx (j := 2) rfl
              have p3 : wr.cell? ⟨b, o + j * 5 + 3, none⟩ = some (.int .i64 xo) := RecsAt.cell hS.recs rfl hlt hx (j := 3) rfl
              have p4 : wr.cell? ⟨b, o + j * 5 + 4, none⟩ = some (.int .i64 xw) := RecsAt.cell hS.recs rfl hlt hx (j := 4) rfl
              have i1 : (0 : Int) ≤ (j : Int) := by omega
              have i2 : (j : Int) < (cs.length : Int) := by omega
              obtain ⟨wA, hwA⟩ : ∃ W, (wr.alloc (.cells #[.int .i64 xn, .int .i64 xd, .int .i64 xc, .int .i64 xo, .int .i64 xw] 51)).alloc (.cells #[.int .i64 xd, .int .i64 xc] 57) = W := ⟨_, rfl⟩
              have hbA : Below wr.heap.size wr wA := by rw [← hwA]; exact ((Below.refl _ _).alloc (Nat.le_refl _) _).alloc (by simp) _
              have kcA : Blk wA wr.heap.size #[.int .i64 xn, .int .i64 xd, .int .i64 xc, .int .i64 xo, .int .i64 xw] 51 := by rw [← hwA]; exact (Blk.new wr _ _).after ((Below.refl _ _).alloc (Nat.le_refl _) _)
              have kpA : Blk wA (wr.heap.size + 1) #[.int .i64 xd, .int .i64 xc] 57 := by
                rw [← hwA]
                have := Blk.new (wr.alloc (.cells #[.int .i64 xn, .int .i64 xd, .int .i64 xc, .int .i64 xo, .int .i64 xw] 51)) #[.int .i64 xd, .int .i64 xc] 57
                rwa [World.size_alloc] at this
              have hFit := fits_ok a cap l l.reverse (fun x => List.mem_reverse) bt ⟨xn, xd, xc, xo, xw⟩ wA (hSl.after hbA) (hMt.after hbA) hl hfit
              dsimp only [encG] at hFit
              have HFit := Lib.hid hFit
              have HOut : Hid (∀ v, (plV (xd, xc), v) ∉ setM plV ((cs.take j).map Cg.ky).reverse) := fun v hv => by
                obtain ⟨k, hk, e⟩ := List.mem_map.1 hv
                obtain ⟨z, hz, rfl⟩ := List.mem_map.1 (List.mem_reverse.1 hk)
                exact hnew z hz (plV_inj (Prod.mk.inj e).1)
              have HKc := Lib.hid kcA
              have HKp := Lib.hid kpA
              have HBA := Lib.hid hbA
              have HWA := Lib.hid hwA
              have HTk := Lib.hid hTk
              have zq : wr.heap.size ≥ bs + 1 := by have := HQ.out.turn.size; omega
              clear hx hy hTk htw hSl hS hbw hfit hnew hMt hwA hbA kcA kpA hFit
              go_wp2_with fail
              rw [HWA.out]
              with_reducible refine HFit.out.mono ?_
              rintro e w7 ⟨rfl, hb7⟩
              have HB7 := Lib.hid hb7
              have HKc7 := Lib.hid (HKc.out.after hb7)
              have HKp7 := Lib.hid (HKp.out.after hb7)
              have HM7 := Lib.hid ((HQ.out.seen.after HBA.out).after hb7)
              have HN7 := Lib.hid ((HQ.out.now.after HBA.out).after hb7)
              have p70 : w7.cell? ⟨wr.heap.size + 1, 0, none⟩ = some (.int .i64 xd) := HKp7.out.cell 0 rfl
              have p71 : w7.cell? ⟨wr.heap.size + 1, 1, none⟩ = some (.int .i64 xc) := HKp7.out.cell 1 rfl
              clear hb7 HFit HKc HKp HWA
              go_wp2_with (at_lookup; refine wpList_look_out _ rfl _ _ 61 false rfl keyP Try.underlying61 Try.zeroValue4 rfl HM7.out (plV (xd, xc)) rfl ⟨_, rfl⟩ HOut.out ?_)
              obtain ⟨n1, hn1⟩ : ∃ n, wr.heap.size = n := ⟨_, rfl⟩
              rw [hn1] at HKc7 HKp7 p70 p71 zq ⊢
              have zbs1 : n1 ≥ bs + 1 := by omega
              have HN1 := Lib.hid hn1
              clear hn1 p70 p71
              refine wp_region_final (fun W => W.cell? ⟨n1 + 1, 0, none⟩ = some (.int .i64 xd) ∧ W.cell? ⟨n1 + 1, 1, none⟩ = some (.int .i64 xc) ∧ W.cell? ⟨n1, 4, none⟩ = some (.int .i64 xw)) 7 (by kernel_rfl) ?_
              have bd : Below w7.heap.size w7 w7.drew := (Below.refl _ _).drew
              obtain ⟨wq, hwq⟩ : ∃ W, w7.drew = W := ⟨_, rfl⟩
              rw [hwq] at bd ⊢
              clear hwq
              have kc8 := HKc7.out.after bd
              have kp8 := HKp7.out.after bd
              have hSd : wq.cell? ⟨n1 + 1, 0, none⟩ = some (.int .i64 xd) ∧ wq.cell? ⟨n1 + 1, 1, none⟩ = some (.int .i64 xc) ∧ wq.cell? ⟨n1, 4, none⟩ = some (.int .i64 xw) := ⟨kp8.cell 0 rfl, kp8.cell 1 rfl, kc8.cell 4 rfl⟩
              refine fT_take (i := 0) (v := ?_) rfl (by kernel_rfl) (fun _ _ _ h => h) (by rfl) hSd ?_ ?_
              rotate_left 1
              · intro wS hSw
                obtain ⟨s1, s2, s3⟩ := hSw
                go_simp
                try with_reducible rfl
              try simp only [Act.put, List.setIfInBounds_toArray, List.set_cons_zero, List.set_cons_succ]
              refine fT_take (i := 1) (v := ?_) rfl (by kernel_rfl) (fun _ _ _ h => h) (by rfl) hSd ?_ ?_
              rotate_left 1
              · intro wS hSw
                obtain ⟨s1, s2, s3⟩ := hSw
                go_simp
                try with_reducible rfl
              try simp only [Act.put, List.setIfInBounds_toArray, List.set_cons_zero, List.set_cons_succ]
              refine fT_take (i := 2) (v := ?_) rfl (by kernel_rfl) (fun _ _ _ h => h) (by rfl) hSd ?_ ?_
              rotate_left 1
              · intro wS hSw
                obtain ⟨s1, s2, s3⟩ := hSw
                go_simp
                try with_reducible rfl
              try simp only [Act.put, List.setIfInBounds_toArray, List.set_cons_zero, List.set_cons_succ]
              refine fT_take (i := 3) (v := ?_) rfl (by kernel_rfl) (fun _ _ _ h => h) (by rfl) hSd ?_ ?_
              rotate_left 1
              · intro wS hSw
                obtain ⟨s1, s2, s3⟩ := hSw
                go_simp
                try with_reducible rfl
              try simp only [Act.put, List.setIfInBounds_toArray, List.set_cons_zero, List.set_cons_succ]
              refine fT_take (i := 4) (v := ?_) rfl (by kernel_rfl) (fun _ _ _ h => h) (by rfl) hSd ?_ ?_
              rotate_left 1
              · intro wS hSw
                obtain ⟨s1, s2, s3⟩ := hSw
                go_simp
                try with_reducible rfl
              try simp only [Act.put, List.setIfInBounds_toArray, List.set_cons_zero, List.set_cons_succ]
              refine fT_take (i := 5) (v := ?_) rfl (by kernel_rfl) (fun _ _ _ h => h) (by rfl) hSd ?_ ?_
              rotate_left 1
              · intro wS hSw
                obtain ⟨s1, s2, s3⟩ := hSw
                go_simp
                try with_reducible rfl
              try simp only [Act.put, List.setIfInBounds_toArray, List.set_cons_zero, List.set_cons_succ]
              refine wpAnyF_next (i := 6) rfl (by kernel_rfl) (fun K hK => ?_)
              rw [if_pos (show Region.wanted _ _ = true from rfl)]
              refine wp_mapstore _ _ _ 61 rfl keyP Try.underlying61 rfl (HM7.out.after bd) (plV (xd, xc)) (.bool true) rfl rfl ⟨_, rfl⟩ ?_
              intro w9 hm9 hg9 hs9
              have kc9 := kc8.grown hg9 (fun e => by simp only [Option.some.injEq] at e; omega)
              have kp9 := kp8.grown hg9 (fun e => by simp only [Option.some.injEq] at e; omega)
              have hn9 := (HN7.out.after bd).kept hg9 (fun e => by simp only [Option.some.injEq] at e; omega)
              have hS9 : w9.cell? ⟨n1 + 1, 0, none⟩ = some (.int .i64 xd) ∧ w9.cell? ⟨n1 + 1, 1, none⟩ = some (.int .i64 xc) ∧ w9.cell? ⟨n1, 4, none⟩ = some (.int .i64 xw) := ⟨kp9.cell 0 rfl, kp9.cell 1 rfl, kc9.cell 4 rfl⟩
              refine hK.out _ _ (.inr hS9) ?_
              clear hK K
              try simp only [Act.put, List.setIfInBounds_toArray, List.set_cons_zero, List.set_cons_succ]
              refine wpAnyF_next (i := 7) rfl (by kernel_rfl) (fun K hK => ?_)
              rw [if_pos (show Region.wanted _ _ = true from rfl)]
              refine wp_mapstore _ _ _ 68 rfl keyP Try.underlying68 rfl hn9 (plV (xd, xc)) (.int .i64 xw) rfl rfl ⟨_, rfl⟩ ?_
              intro wZ hmZ hgZ hsZ
              have hsnZ := hm9.kept hgZ (fun e => by simp only [Option.some.injEq] at e; omega)
              refine hK.out _ _ (.inl rfl) ?_
              clear hK K
              try simp only [Act.put, List.setIfInBounds_toArray, List.set_cons_zero, List.set_cons_succ]
              refine wpAnyF_done (by kernel_rfl) ?_ _
              have HQ4 : Hid (CRel w6 wZ bn bs ((cs.take (j + 1)).foldl updN (pre.reverse.map liveN)) ((cs.take (j + 1)).map Cg.ky).reverse) := by
                refine ⟨?_, ?_, ?_⟩
                · rw [HTk.out, List.foldl_append]
                  show MapAt OkPl wZ bn ((updN _ _).map entN)
                  rw [updN_ent]
                  exact hmZ
                · rw [HTk.out, List.map_append, List.reverse_append]
                  show MapAt OkPl wZ bs ((plV (xd, xc), .bool true) :: setM plV ((cs.take j).map Cg.ky).reverse)
                  have : lessKey (plV (xd, xc)) (setM plV ((cs.take j).map Cg.ky).reverse) = setM plV ((cs.take j).map Cg.ky).reverse := by
                    unfold lessKey
                    refine List.filter_eq_self.2 fun p hp => ?_
                    obtain ⟨k, v⟩ := p
                    have := HOut.out v
                    simp only [decide_eq_true_eq]
                    intro e
                    exact this (by rw [← e]; exact hp)
                  rw [this] at hsnZ
                  exact hsnZ
                · have t1 : Turn [bn, bs] wr w7 := Turn.of_below (HBA.out.trans (HB7.out.mono HBA.out.size))
                  have t2 : Turn [bn, bs] w7 wq := Turn.of_below bd
                  exact HQ.out.turn.trans (t1.trans (t2.trans ((Turn.of_grown hg9 (by simp)).trans (Turn.of_grown hgZ (by simp)))))
              clear hm9 hg9 hs9 kc9 kp9 hn9 hS9 hmZ hgZ hsZ hsnZ hSd kc8 kp8 bd HQ HM7 HN7 HKc7 HKp7 HB7 HBA HOut HTk
              go_wp2_with fail
              go_roundw
              case rel => exact ⟨j + 1, by omega, by go_num, HQ4⟩
              case measure => simp [intOf]; omega
            · obtain rfl : j = cs.length := by omega
              rw [List.take_length] at HQ
              have hck' : ckE pre.reverse = 0 := by rw [ckE_perm HPp.out]; exact HCk0.out
              have HPl' : Hid (IsPlan pre.reverse f cs) := HPl.out.perm HPp.out.symm
              have hlen : (cs.foldl updN (pre.reverse.map liveN)).length ≤ 3000 := by
                have h1 := foldN_len (pre.reverse.map liveN) cs
                have h2 := HPp.out.length_eq
                rw [List.length_map] at h1
                omega
              have HWant : Hid (∀ K : List KD, K.Pairwise ltK → (∀ k, k ∈ K ↔ k ∈ (cs.foldl updN (pre.reverse.map liveN)).map (·.1)) → outN (cs.foldl updN (pre.reverse.map liveN)) K = f) := fun K hK hm => out_want hck' HOb.out HPl'.out hK hm
              have hNk := HNf.out.1
              obtain ⟨N, hN⟩ : ∃ N, cs.foldl updN (pre.reverse.map liveN) = N := ⟨_, rfl⟩
              rw [hN] at hlen HWant hNk HQ
              have hS := sortedI_ok bn (N.map entN) (N.map (·.1)) (entN_keys N) wr HQ.out.now (by rw [List.length_map]; omega)
              have HS := Lib.hid hS
              have htw : Turn [bt, bn, bn + 1, bs] w2 wr := (HT6.out.mono (fun x hx => by simp at hx ⊢; omega)).trans (HQ.out.turn.mono (fun x hx => by simp at hx ⊢; omega))
              have HBr : Hid (Below w.heap.size w wr) := (HSl.out wr _ htw (by simp; omega)).2.2
              have HNk := Lib.hid hNk
              have HNow := Lib.hid HQ.out.now
              have hkl : (N.map (·.1)).length ≤ 3000 := by rw [List.length_map]; exact hlen
              clear hck' HPl' hlen hNk hN HQ hS htw HT6 HM6 HR6 HNf HPp HSl H H'
              go_wp2_with fail
              with_reducible refine HS.out.mono ?_
              rintro e w5 ⟨aK, cK, K, rfl, hKp, hKr, hKc, hb5, hKx⟩
              have hout := HWant.out K hKr (fun k => hKp.mem_iff)
              have hKl : K.length ≤ 3000 := by rw [hKp.length_eq]; exact hkl
              have HOutW := Lib.hid hout
              have HKp := Lib.hid hKp
              have HKc := Lib.hid hKc
              have HM5 := Lib.hid (HNow.out.after hb5)
              have HB5 := Lib.hid (HBr.out.trans (hb5.mono HBr.out.size))
              have z5 := HB5.out.size
              clear hKp hKr hKc hb5 hKx hout HS HWant HNow hkl
              go_wp2_with fail
              go_loopw [18, 86] (fun v i wq => ∃ j : Nat, j ≤ K.length ∧ i = .int .i64 j ∧ Hid (wq.ownsRow w5.heap.size 44 3 v (outN N (K.take j)).length (cellsL encW (outN N (K.take j)))) ∧ Hid (Below w5.heap.size w5 wq)) (fun _ i _ => K.length - (intOf i).toNat)
              case atStart => exact ⟨0, by omega, rfl, World.ownsRow_nil _ _ _ _, Below.refl _ _⟩
              case round =>
                obtain ⟨j, hj, rfl, HO, HBq⟩ := hrel
                by_cases hlt : j < K.length
                · have hx := List.getElem?_eq_getElem hlt
                  obtain ⟨c, hy⟩ : ∃ c, K[j] = c := ⟨_, rfl⟩
                  rw [hy] at hx
                  have hTk : K.take (j + 1) = K.take j ++ [c] := by rw [List.take_succ_eq_append_getElem hlt, hy]
                  have hcK : c ∈ N.map (·.1) := HKp.out.mem_iff.1 (by rw [← hy]; exact List.getElem_mem _)
                  have hR : RecsAt wr aK 2 encP K := RowsAt.after HKc.out HBq.out
                  obtain ⟨b, o, rfl, _⟩ := hR (by omega)
                  obtain ⟨cd, cc⟩ := c
                  have p0 : wr.cell? ⟨b, o + j * 2, none⟩ = some (.int .i64 cd) := RecsAt.cell hR rfl (by omega) hx (j := 0) rfl
                  have p1 : wr.cell? ⟨b, o + j * 2 + 1, none⟩ = some (.int .i64 cc) := RecsAt.cell hR rfl (by omega) hx (j := 1) rfl
                  have i1 : (0 : Int) ≤ (j : Int) := by omega
                  have i2 : (j : Int) < (K.length : Int) := by omega
                  have hin := valN_in HNk.out hcK
                  have hsn := outN_snoc N (K.take j) (cd, cc)
                  rw [← hTk] at hsn
                  obtain ⟨vn, hvn⟩ : ∃ n, valN N (cd, cc) = n := ⟨_, rfl⟩
                  rw [hvn] at hin hsn
                  have HIn : Hid ((plV (cd, cc), .int .i64 vn) ∈ N.map entN) := List.mem_map.2 ⟨_, hin, rfl⟩
                  have HMq : Hid (∀ o1 : Obj, MapAt OkPl (wr.alloc o1) bn (N.map entN)) := fun o1 => (HM5.out.after HBq.out).after ((Below.refl _ _).alloc (Nat.le_refl _) _)
                  have HBa : Hid (∀ o1 : Obj, Below w5.heap.size w5 (wr.alloc o1)) := fun o1 => HBq.out.trans (((Below.refl _ _).alloc (Nat.le_refl _) _).mono HBq.out.size)
                  have hfl : (outN N (K.take j)).length ≤ K.length := Nat.le_trans (List.length_filterMap_le _ _) (by rw [List.length_take]; omega)
                  have zq := HBq.out.size
                  have hvn' := hvn
                  clear hx hy hcK hR hin hvn hTk
                  by_cases hne : vn = 0
                  · subst hne
                    rw [if_pos rfl] at hsn
                    have HO2 : Hid (∀ o1 : Obj, (wr.alloc o1).ownsRow w5.heap.size 44 3 u18 (outN N (K.take (j + 1))).length (cellsL encW (outN N (K.take (j + 1))))) := fun o1 => by rw [hsn]; exact HO.out.alloc _
                    clear hsn HO hvn'
                    go_wp2_with (at_lookup; refine wpList_look_in _ rfl _ _ 68 false rfl keyP Try.underlying68 rfl (HMq.out _) (plV (cd, cc)) (.int .i64 0) rfl ⟨_, rfl⟩ HIn.out ?_)
                    go_roundw
                    case rel => exact ⟨j + 1, by omega, by go_num, HO2.out _, HBa.out _⟩
                    case measure => simp [intOf]; omega
                  · have e1 : (vn == 0) = false := by rw [beq_eq_false_iff_ne]; exact hne
                    rw [if_neg hne] at hsn
                    have HT := Lib.hid hsn
                    have HO2 : Hid (∀ o1 o2 : Obj, ((wr.alloc o1).alloc o2).ownsRow w5.heap.size 44 3 u18 (outN N (K.take j)).length (cellsL encW (outN N (K.take j)))) := fun o1 o2 => (HO.out.alloc _).alloc _
                    have HNw : Hid (∀ (o1 : Obj) (i : Nat) (u : Value), [Value.int .i64 cd, .int .i64 cc, .int .i64 vn][i]? = some u → ((wr.alloc o1).alloc (.cells #[.int .i64 cd, .int .i64 cc, .int .i64 vn] 44)).cell? ((⟨wr.heap.size + 1, 0, none⟩ : Addr).add i) = some u) := fun o1 => by
                      have := World.news_of_block (cs := #[.int .i64 cd, .int .i64 cc, .int .i64 vn]) (t := 44) (fr := (0, 0)) (heap_alloc_new (wr.alloc o1) _)
                      simpa using this
                    have HOw := HO.out
                    obtain ⟨FL, hFL⟩ : ∃ F, outN N (K.take j) = F := ⟨_, rfl⟩
                    rw [hFL] at HT HO2 hfl HOw
                    have HOw' := Lib.hid HOw
                    have HBc : Hid (∀ o1 o2 : Obj, Below w5.heap.size w5 ((wr.alloc o1).alloc o2)) := fun o1 o2 => (HBa.out o1).alloc (HBa.out o1).size _
                    clear hsn HO hne hFL HOw hvn'
                    go_wp2_with (first
                      | (at_lookup; refine wpList_look_in _ rfl _ _ 68 false rfl keyP Try.underlying68 rfl (HMq.out _) (plV (cd, cc)) (.int .i64 vn) rfl ⟨_, rfl⟩ HIn.out ?_)
                      | (at_builtin; refine wpList_append_own _ rfl (.tmp 95) (.tmp 102) 23 rfl w5.heap.size 44 i0 _ 3 24 Try.underlying23 hi hz0 hz1 hz2 rfl (by decide) u18 FL.length _ rfl (HO2.out _ _) ⟨wr.heap.size + 1, 0, none⟩ 1 1 [.int .i64 cd, .int .i64 cc, .int .i64 vn] rfl rfl (HNw.out _) (by simp [Value.oneCell']) (by unfold maxLen; omega) (by omega) (HBc.out _ _).size ?_; intro v' w7 hown' hgrow _))
                    have HO3 : Hid (w7.ownsRow w5.heap.size 44 3 v' (outN N (K.take (j + 1))).length (cellsL encW (outN N (K.take (j + 1))))) := by
                      show World.ownsRow _ _ _ _ _ _ _
                      rw [HT.out, List.length_append, cellsL_snoc]
                      exact hown'
                    have HB3 : Hid (Below w5.heap.size w5 w7) := (HBc.out _ _).grown hgrow (HBc.out _ _).size (fun k e => (own_cells HOw'.out e).1)
                    clear hown' hgrow
                    go_roundw
                    case rel => exact ⟨j + 1, by omega, by go_num, HO3.out, HB3.out⟩
                    case measure => simp [intOf]; omega
                · obtain rfl : j = K.length := by omega
                  have hO := HO.out
                  rw [List.take_length, HOutW.out] at hO
                  obtain ⟨ar, cr, rfl, hSl, hXl⟩ := sl_own (enc := encW) (fun _ => rfl) hO
                  have HF := Lib.hid (HFin.out (.returned (.tuple #[.slice ar f.length cr, .int .i64 0])) wr ⟨ar, cr, rfl, hSl, HB5.out.trans (HBq.out.mono z5)⟩)
                  clear hO HO hSl hXl HBq
                  go_wp2_with fail
                  go_ret2
                  exact HF.out
        · intro x v lf wn hpn hin hgn hsn hen
          obtain ⟨z, ez, hll⟩ := HQ.out.ll.step hpn
          have hnew := pre_new HNd.out hll
          have hlen := hpn.length_eq
          obtain ⟨xn, xd, xc, xa⟩ := z
          obtain ⟨rfl, rfl⟩ := Prod.mk.inj ez
          have hen2 := hen wn rfl rfl
          dsimp only [entL, plV, encL, Lv.ky] at hen2
          have HMn : Hid (∀ o1 o2 : Obj, MapAt OkPl ((wn.alloc o1).alloc o2) bn ((pre.reverse.map liveN).map entN)) := fun o1 o2 => ((HQ.out.map.kept hgn (by simp)).after ((Below.refl _ _).alloc (Nat.le_refl _) _)).after ((Below.refl _ _).alloc (Nat.le_refl _) _)
          have HBo : Hid (∀ o1 o2 : Obj, Below wn.heap.size wn ((wn.alloc o1).alloc o2)) := fun o1 o2 => ((Below.refl _ _).alloc (Nat.le_refl _) _).alloc (by simp) _
          have HStep : Hid (∀ (wq : World) (o1 o2 : Obj), MapAt OkPl wq bn ((plV (xd, xc), .int .i64 xa) :: lessKey (plV (xd, xc)) ((pre.reverse.map liveN).map entN)) → ((wn.alloc o1).alloc o2).grownBy wq (some bn) → NRel w4 wq bt bn (bn + 1) l (pre ++ [⟨xn, xd, xc, xa⟩]) lf ∧ wq.rangeLeft bt (bn + 1) < wr.rangeLeft bt (bn + 1)) := fun wq o1 o2 hm hg => by
            rw [lessKey_newN (k := (xd, xc)) (fun p hp => by
              obtain ⟨y, hy, rfl⟩ := List.mem_map.1 hp
              exact hnew y (List.mem_reverse.1 hy))] at hm
            have hit' : IterAt OkPl wq bt (bn + 1) (l.reverse.map entL) lf := by rw [List.map_reverse]; exact (hin.after (HBo.out o1 o2)).kept hg (by simp; omega) (by simp)
            refine ⟨⟨hit', hll, ?_, HQ.out.turn.trans ((Turn.of_grown hgn (by simp)).trans ((Turn.of_below (HBo.out o1 o2)).trans (Turn.of_grown hg (by simp))))⟩, ?_⟩
            · rw [List.reverse_append]
              exact hm
            · rw [hit'.left_len, HQ.out.it.left_len, hlen]
              simp
          clear hpn hin hgn hen hll hnew hlen HQ
          go_wp2_with (at_mapUpdate; refine wpList_store _ rfl _ _ _ 68 rfl keyP Try.underlying68 rfl (HMn.out _ _) (plV (xd, xc)) (.int .i64 xa) rfl rfl ⟨_, rfl⟩ ?_; intro w6 hm6 hg6 hs6)
          have HN := Lib.hid (HStep.out w6 _ _ hm6 hg6)
          clear hm6 hg6 hs6 HStep HMn HBo
          simp only [Act.put]
          go_roundw
          case rel => exact ⟨_, _, HN.out.1⟩
          case measure => exact HN.out.2

end Go.Proofs.Ytmjgcenhgpkhiaa
