/- Package adjust: Plan. -/
import Derived.Test.YtmjgcenhgpkhiaaDoorAdI
import Derived.Maps.Own
import Derived.Maps.OwnOps
namespace Go.Proofs.YtmjgcenhgpkhiaaDoor
open Go.RowKit Go.Sort Go.Shelf
set_option linter.unusedVariables false
set_option linter.unusedSimpArgs false

def entG (c : Cg) : Value × Value := (plV c.ky, .agg (encG c).toArray)
theorem entG_keys (C : List Cg) : (C.map entG).map (·.1) = (C.map Cg.ky).map plV := by rw [List.map_map, List.map_map]; rfl
theorem lessKey_ent (k : KD) (C : List Cg) : lessKey (plV k) (C.map entG) = (C.filter fun c => decide (c.ky ≠ k)).map entG := by
  unfold lessKey
  rw [List.filter_map]
  congr 1
  refine List.filter_congr fun c _ => ?_
  by_cases h : c.ky = k
  · simp [h, entG]
  · have : plV c.ky ≠ plV k := fun e => h (plV_inj e)
    simp [h, this, entG]
/-- One more change in place of another one of its place. -/
def setG (C : List Cg) (c : Cg) : List Cg := c :: C.filter fun b => decide (b.ky ≠ c.ky)
theorem setG_keys {C : List Cg} {c : Cg} (h : (C.map Cg.ky).Nodup) : ((setG C c).map Cg.ky).Nodup := by
  unfold setG
  rw [List.map_cons, List.nodup_cons]
  refine ⟨fun hm => ?_, h.sublist (List.filter_sublist.map _)⟩
  obtain ⟨p, hp, e⟩ := List.mem_map.1 hm
  have := (List.mem_filter.1 hp).2
  simp [e] at this
theorem setG_mem {C : List Cg} {c b : Cg} : b ∈ setG C c ↔ b = c ∨ (b ∈ C ∧ b.ky ≠ c.ky) := by
  unfold setG
  rw [List.mem_cons, List.mem_filter]
  simp
theorem setG_ent (C : List Cg) (c : Cg) : (setG C c).map entG = entG c :: lessKey (plV c.ky) (C.map entG) := by
  rw [lessKey_ent]
  rfl
theorem updC_in {C : List Cg} {x : Fl} {c : Cg} (h : (C.map Cg.ky).Nodup) (hc : c ∈ C) (e : c.ky = x.ky) : updC C x = setG C ⟨c.no, c.d, c.c, c.o, x.a⟩ := by
  unfold updC
  cases hf : C.find? (fun c => decide (c.ky = x.ky)) with
  | none => exact absurd e (by simpa using List.find?_eq_none.1 hf c hc)
  | some b =>
    have h1 := List.mem_of_find?_eq_some hf
    have h2 : b.ky = x.ky := by simpa using List.find?_some hf
    have : b = c := by
      obtain ⟨i, hi, e1⟩ := List.getElem_of_mem h1
      obtain ⟨k, hk, e2⟩ := List.getElem_of_mem hc
      have h3 : (C.map Cg.ky)[i]? = (C.map Cg.ky)[k]? := by
        rw [List.getElem?_map, List.getElem?_map, List.getElem?_eq_getElem hi, List.getElem?_eq_getElem hk, e1, e2]
        simp [h2, e]
      have h4 : i = k := (List.getElem?_inj (by simpa using hi) h).1 h3
      subst h4
      rw [← e1, e2]
    subst this
    dsimp only
    unfold setG
    rw [show (⟨b.no, b.d, b.c, b.o, x.a⟩ : Cg).ky = x.ky from e]
theorem updC_out {C : List Cg} {x : Fl} (h : ∀ c ∈ C, c.ky ≠ x.ky) : updC C x = setG C ⟨-1, x.d, x.c, 0, x.a⟩ := by
  unfold updC
  rw [List.find?_eq_none.2 (fun c hc => by simpa using h c hc)]
  rfl
theorem sorted_lift : ∀ (K : List KD) (C : List Cg), K.Perm (C.map Cg.ky) → ∃ s : List Cg, s.Perm C ∧ s.map Cg.ky = K
  | [], C, h => by
    have : C = [] := by
      have := h.length_eq
      exact List.length_eq_zero_iff.1 (by simpa using this.symm)
    subst this
    exact ⟨[], List.Perm.refl _, rfl⟩
  | k :: K, C, h => by
    obtain ⟨c, hc, e⟩ := List.mem_map.1 (h.mem_iff.1 (List.mem_cons_self ..))
    have h1 : C.Perm (c :: C.erase c) := List.perm_cons_erase hc
    have h2 : (k :: K).Perm (k :: (C.erase c).map Cg.ky) := h.trans (by have := h1.map Cg.ky; rw [List.map_cons, e] at this; exact this)
    obtain ⟨s, hs, he⟩ := sorted_lift K (C.erase c) (List.Perm.cons_inv h2)
    exact ⟨c :: s, (hs.cons c).trans h1.symm, by rw [List.map_cons, e, he]⟩
theorem plan_sorted {l : List Lv} {w : List Fl} {s : List Cg} (hs : Rising Cg.ky s) (hm : ∀ c, c ∈ s ↔ AllC l w c) : IsPlan l w (s.filter fun c => decide (c.o ≠ c.n)) := by
  refine ⟨List.Pairwise.sublist List.filter_sublist hs, fun c => ?_⟩
  rw [List.mem_filter, hm]
  simp [InPlan]
theorem allC_len {l : List Lv} {w : List Fl} {C : List Cg} (h : (C.map Cg.ky).Nodup) (hm : ∀ c ∈ C, AllC l w c) : C.length ≤ l.length + w.length := by
  have hs : ∀ c ∈ C, c ∈ l.map (fun x => (⟨x.no, x.d, x.c, x.a, wantAt w x.ky⟩ : Cg)) ++ w.map (fun y => (⟨-1, y.d, y.c, 0, y.a⟩ : Cg)) := fun c hc => by
    rcases hm c hc with ⟨x, hx, rfl⟩ | ⟨y, hy, _, rfl⟩
    · exact List.mem_append.2 (.inl (List.mem_map.2 ⟨x, hx, rfl⟩))
    · exact List.mem_append.2 (.inr (List.mem_map.2 ⟨y, hy, rfl⟩))
  have hn : C.Nodup := by
    rw [List.Nodup, List.pairwise_map] at h
    exact h.imp fun hne e => hne (by rw [e])
  have := nodup_len _ _ hn hs
  simpa using this
def planE (l : List Lv) (w : List Fl) : Int := if ckE l = 0 then ordE w else ckE l
def PlanEnd (w : World) (l : List Lv) (f : List Fl) (e : Ending) (w' : World) : Prop :=
  ∃ a cap p, e = .returned (.tuple #[.slice a p.length cap, .int .i64 (planE l f)]) ∧ SlAt w' 5 encG a cap p ∧ (planE l f = 0 → IsPlan l f p) ∧ (planE l f ≠ 0 → p = []) ∧ Below w.heap.size w w' ∧ (∀ x, a = some x → w.heap.size ≤ x.block) ∧ w'.ownsRow w.heap.size 39 5 (.slice a p.length cap) p.length (cellsL encG p)
theorem own_downG {w : World} {base base' size n : Nat} {e : TypeId} {v : Value} {cs : List Value} (h : w.ownsRow base e size v n cs) (hb : base' ≤ base) : w.ownsRow base' e size v n cs := ⟨h.1, h.2.imp id fun ⟨g, cap, cur, h1, h2, h3⟩ => ⟨g, cap, cur, h1, Nat.le_trans hb h2, h3⟩⟩
structure PlRel (w4 wr : World) (bm : Nat) (C : List Cg) (Q : Cg → Prop) : Prop where
  map : MapAt OkPl wr bm (C.map entG)
  keys : (C.map Cg.ky).Nodup
  mem : ∀ c, c ∈ C ↔ Q c
  turn : Turn [bm] w4 wr
set_option maxHeartbeats 8000000 in
set_option maxRecDepth 100000 in
theorem plan_ok (a : Option Addr) (cap : Nat) (l : List Lv) (a' : Option Addr) (cap' : Nat) (f : List Fl) (w : World) (h : SlG w 4 encL a cap l) (h' : SlG w 3 encW a' cap' f) (hl : l.length ≤ 1000) (hf : f.length ≤ 1000) (hwf : ∀ x ∈ l, (Lit.int .i64 x.no).wf = true) :
    Calls Tryd.prog 19 #[.slice a l.length cap, .slice a' f.length cap'] w (PlanEnd w l f) := by
  have hmm := @run_makeMap Tryd.prog
  obtain ⟨i0, hi, hz0, hz1, hz2⟩ := info_parts infoCg
  have H := Lib.hid h
  have H' := Lib.hid h'
  have HCk := Lib.hid (check_ok16 a cap l w h hl hwf)
  clear h h' hwf
  go_enter Tryd.func19, Tryd.ntmps19
  go_wp2_with fail
  with_reducible refine HCk.out.mono ?_
  rintro e w1 ⟨rfl, hb1⟩
  by_cases hck : ckE l ≠ 0
  · have d1 : (ckE l == 0) = false := by rw [beq_eq_false_iff_ne]; exact hck
    have HF : Hid (PlanEnd w l f (.returned (.tuple #[.slice none 0 0, .int .i64 (ckE l)])) w1) := ⟨none, 0, [], by unfold planE; rw [if_neg hck]; rfl, SlAt.nil _, fun e => by unfold planE at e; rw [if_neg hck] at e; exact absurd e hck, fun _ => rfl, hb1, fun x e => (by cases e), World.ownsRow_nil _ _ _ _⟩
    obtain ⟨E, hE⟩ : ∃ E, ckE l = E := ⟨_, rfl⟩
    rw [hE] at d1 HF ⊢
    clear hck hE HCk
    go_wp2_with fail
    go_ret2
    exact HF.out
  replace hck : ckE l = 0 := Decidable.of_not_not hck
  rw [hck]
  have HCk0 := Lib.hid hck
  have HB1 := Lib.hid hb1
  have HOr := Lib.hid (ordered_ok a' cap' f w1 (H'.out.after hb1) hf)
  clear hck hb1 HCk
  go_wp2_with fail
  with_reducible refine HOr.out.mono ?_
  rintro e w2 ⟨rfl, hb2⟩
  have HB2 := Lib.hid (HB1.out.trans (hb2.mono HB1.out.size))
  clear hb2 HB1 HOr
  have hor : ordE f = if ordB f = true then 0 else 13 := rfl
  by_cases hob : ¬ ordB f = true
  · rw [if_neg hob] at hor
    have HF : Hid (PlanEnd w l f (.returned (.tuple #[.slice none 0 0, .int .i64 13])) w2) := ⟨none, 0, [], by unfold planE; rw [if_pos HCk0.out, hor]; rfl, SlAt.nil _, fun e => (by unfold planE at e; rw [if_pos HCk0.out, hor] at e; cases e), fun _ => rfl, HB2.out, fun x e => (by cases e), World.ownsRow_nil _ _ _ _⟩
    rw [hor]
    clear hor hob
    go_wp2_with fail
    go_ret2
    exact HF.out
  replace hob : ordB f = true := Decidable.of_not_not hob
  rw [if_pos hob] at hor
  rw [hor]
  have HPE : Hid (planE l f = 0) := by show _ = _; unfold planE; rw [if_pos HCk0.out, hor]
  have HOb := Lib.hid hob
  obtain ⟨w4, hw4⟩ : ∃ W, w2.alloc (.map #[] 0) = W := ⟨_, rfl⟩
  have hb4 : Below w2.heap.size w2 w4 := by rw [← hw4]; exact (Below.refl _ _).alloc (Nat.le_refl _) _
  have z4 : w4.heap.size = w2.heap.size + 1 := by rw [← hw4]; simp
  have m4 : MapAt OkPl w4 w2.heap.size [] := by rw [← hw4]; exact MapAt.made OkPl w2
  have HRel0 : Hid (PlRel w4 w4 w2.heap.size [] (fun c => ∃ x ∈ l.take 0, c = liveC x)) := ⟨m4, List.nodup_nil, fun c => by simp, Turn.refl _ _⟩
  have HB4 : Hid (Below w.heap.size w w4) := HB2.out.trans (hb4.mono HB2.out.size)
  have HW4 := Lib.hid hw4
  have zw2 := HB2.out.size
  have HSl : Hid (∀ wr, Turn [w2.heap.size] w4 wr → SlG wr 4 encL a cap l ∧ SlG wr 3 encW a' cap' f) := fun wr ht => ⟨H.out.after (HB4.out.trans (ht.below (by omega) (fun b hb => by rw [List.mem_singleton.1 hb]; exact zw2))), H'.out.after (HB4.out.trans (ht.below (by omega) (fun b hb => by rw [List.mem_singleton.1 hb]; exact zw2)))⟩
  clear hob hor hb4 m4 hw4
  go_wp2_with fail
  rw [HW4.out]
  go_loopw [33] (fun i wr => ∃ j : Nat, j ≤ l.length ∧ i = .int .i64 j ∧ Hid (∃ C, PlRel w4 wr w2.heap.size C (fun c => ∃ x ∈ l.take j, c = liveC x))) (fun i _ => l.length - (intOf i).toNat)
  case atStart => exact ⟨0, by omega, rfl, [], HRel0.out⟩
  case round =>
    obtain ⟨j, hj, rfl, HQ⟩ := hrel
    obtain ⟨C, hC⟩ := HQ.out
    by_cases hlt : j < l.length
    · have hx := List.getElem?_eq_getElem hlt
      obtain ⟨x, hy⟩ : ∃ x, l[j] = x := ⟨_, rfl⟩
      rw [hy] at hx
      have hTk : l.take (j + 1) = l.take j ++ [x] := by rw [List.take_succ_eq_append_getElem hlt, hy]
      have hS := (HSl.out wr hC.turn).1
      rcases hS.sh with rfl | ⟨b, o, rfl, hbl⟩
      · exact absurd hlt (by simp)
      have hkx : ∀ z ∈ l.take j, z.ky ≠ x.ky := fun z hz e => by
        have hn := (ckE_ok HCk0.out).2.2.1
        obtain ⟨i, hi', e1⟩ := List.getElem_of_mem hz
        rw [List.length_take] at hi'
        have h3 : (l.map Lv.ky)[i]? = (l.map Lv.ky)[j]? := by
          rw [List.getElem?_map, List.getElem?_map, hx, List.getElem?_eq_getElem (show i < l.length by omega)]
          rw [List.getElem_take] at e1
          rw [e1]
          simp [e]
        have := (List.getElem?_inj (by simp; omega) hn).1 h3
        omega
      obtain ⟨xn, xd, xc, xa⟩ := x
      have p0 : wr.cell? ⟨b, o + j * 4, none⟩ = some (.int .i64 xn) := RecsAt.cell hS.recs rfl hlt hx (j := 0) rfl
      have p1 : wr.cell? ⟨b, o + j * 4 + 1, none⟩ = some (.int .i64 xd) := RecsAt.cell hS.recs rfl hlt hx (j := 1) rfl
      have p2 : wr.cell? ⟨b, o + j * 4 + 2, none⟩ = some (.int .i64 xc) := RecsAt.cell hS.recs rfl hlt hx (j := 2) rfl
      have p3 : wr.cell? ⟨b, o + j * 4 + 3, none⟩ = some (.int .i64 xa) := RecsAt.cell hS.recs rfl hlt hx (j := 3) rfl
      have i1 : (0 : Int) ≤ (j : Int) := by omega
      have i2 : (j : Int) < (l.length : Int) := by omega
      have HCr := Lib.hid hC
      have HStep : Hid (∀ wn, MapAt OkPl wn w2.heap.size ((setG C ⟨xn, xd, xc, xa, 0⟩).map entG) → Turn [w2.heap.size] wr wn → ∃ C, PlRel w4 wn w2.heap.size C (fun c => ∃ x ∈ l.take (j + 1), c = liveC x)) := fun wn hm ht => by
        refine ⟨_, hm, setG_keys HCr.out.keys, fun c => ?_, HCr.out.turn.trans ht⟩
        rw [setG_mem, HCr.out.mem, hTk]
        constructor
        · rintro (rfl | ⟨⟨z, hz, rfl⟩, _⟩)
          · exact ⟨⟨xn, xd, xc, xa⟩, by simp, rfl⟩
          · exact ⟨z, by simp [hz], rfl⟩
        · rintro ⟨z, hz, rfl⟩
          rcases List.mem_append.1 hz with hz | hz
          · exact .inr ⟨⟨z, hz, rfl⟩, hkx z hz⟩
          · rw [List.mem_singleton.1 hz]; exact .inl rfl
      have hb5 : Below wr.heap.size wr (wr.alloc (.cells #[.int .i64 xn, .int .i64 xd, .int .i64 xc, .int .i64 xa] 62)) := (Below.refl _ _).alloc (Nat.le_refl _) _
      have HM5 := Lib.hid (hC.map.after hb5)
      have HB5 := Lib.hid hb5
      clear hx hy hTk hS hkx hC HQ hb5
      go_wp2_with (at_mapUpdate; refine wpList_store _ rfl _ _ _ 89 rfl keyP Tryd.underlying89 rfl HM5.out (plV (xd, xc)) (.agg #[.int .i64 xn, .int .i64 xd, .int .i64 xc, .int .i64 xa, .int .i64 0]) rfl rfl ⟨_, rfl⟩ ?_; intro w6 hm6 hg6 hs6)
      have HN := Lib.hid (HStep.out w6 (by rw [setG_ent]; exact hm6) ((Turn.of_below HB5.out).trans (Turn.of_grown (bs := [w2.heap.size]) hg6 (by simp) |> fun h => (⟨h.os, h.tape, h.output, h.size, h.block⟩ : Turn _ _ _))))
      clear hm6 hg6 hs6 HStep HM5 HB5 HCr
      go_roundw
      case rel => exact ⟨j + 1, by omega, by go_num, HN.out⟩
      case measure => simp [intOf]; omega
    · obtain rfl : j = l.length := by omega
      rw [List.take_length] at hC
      have HRelA : Hid (PlRel w4 wr w2.heap.size C (AllC l (f.take 0))) := ⟨hC.map, hC.keys, fun c => (hC.mem c).trans (by rw [List.take_zero, ← (liveC_all (ckE_ok HCk0.out).2.2.1).2, List.mem_map]; exact ⟨fun ⟨x, hx, e⟩ => ⟨x, hx, e.symm⟩, fun ⟨x, hx, e⟩ => ⟨x, hx, e.symm⟩⟩), hC.turn⟩
      clear hC HQ HRel0
      go_wp2_with fail
      go_loopw [55] (fun i wr => ∃ j : Nat, j ≤ f.length ∧ i = .int .i64 j ∧ Hid (∃ C, PlRel w4 wr w2.heap.size C (AllC l (f.take j)))) (fun i _ => f.length - (intOf i).toNat)
      case atStart => exact ⟨0, by omega, rfl, _, HRelA.out⟩
      case round =>
        obtain ⟨j, hj, rfl, HQ⟩ := hrel
        obtain ⟨C, hC⟩ := HQ.out
        by_cases hlt : j < f.length
        · have hx := List.getElem?_eq_getElem hlt
          obtain ⟨x, hy⟩ : ∃ x, f[j] = x := ⟨_, rfl⟩
          rw [hy] at hx
          have hTk : f.take (j + 1) = f.take j ++ [x] := by rw [List.take_succ_eq_append_getElem hlt, hy]
          have hS := (HSl.out wr hC.turn).2
          rcases hS.sh with rfl | ⟨b, o, rfl, hbl⟩
          · exact absurd hlt (by simp)
          have hrise : Rising Fl.ky (f.take j ++ [x]) := by rw [← hTk]; exact List.Pairwise.sublist (List.take_sublist _ _) (ordB_ok HOb.out).2
          have hUp : ∀ c, c ∈ updC C x ↔ AllC l (f.take (j + 1)) c := by
            rw [hTk]
            exact foldC (ckE_ok HCk0.out).2.2.1 _ (List.pairwise_append.1 hrise).1 C hC.keys hC.mem x (fun y hy => (List.pairwise_append.1 hrise).2.2 y hy x (by simp))
          obtain ⟨xd, xc, xa⟩ := x
          have p0 : wr.cell? ⟨b, o + j * 3, none⟩ = some (.int .i64 xd) := RecsAt.cell hS.recs rfl hlt hx (j := 0) rfl
          have p1 : wr.cell? ⟨b, o + j * 3 + 1, none⟩ = some (.int .i64 xc) := RecsAt.cell hS.recs rfl hlt hx (j := 1) rfl
          have p2 : wr.cell? ⟨b, o + j * 3 + 2, none⟩ = some (.int .i64 xa) := RecsAt.cell hS.recs rfl hlt hx (j := 2) rfl
          have i1 : (0 : Int) ≤ (j : Int) := by omega
          have i2 : (j : Int) < (f.length : Int) := by omega
          have HCr := Lib.hid hC
          have HUp := Lib.hid hUp
          have HM5 : Hid (∀ wn, Below wr.heap.size wr wn → MapAt OkPl wn w2.heap.size (C.map entG)) := fun wn hb => HCr.out.map.after hb
          have HBa : Hid (∀ o1 o2 : Obj, Below wr.heap.size wr ((wr.alloc o1).alloc o2)) := fun o1 o2 => ((Below.refl _ _).alloc (Nat.le_refl _) _).alloc (by simp) _
          have HBb : Hid (∀ o1 o2 o3 : Obj, Below wr.heap.size wr (((wr.alloc o1).alloc o2).alloc o3)) := fun o1 o2 o3 => (HBa.out o1 o2).alloc (HBa.out o1 o2).size _
          have HStep : Hid (∀ wn c, updC C ⟨xd, xc, xa⟩ = setG C c → MapAt OkPl wn w2.heap.size (entG c :: lessKey (plV c.ky) (C.map entG)) → Turn [w2.heap.size] wr wn → ∃ C, PlRel w4 wn w2.heap.size C (AllC l (f.take (j + 1)))) := fun wn c he hm ht => ⟨updC C ⟨xd, xc, xa⟩, by rw [he, setG_ent]; exact hm, updC_keys HCr.out.keys, HUp.out, HCr.out.turn.trans ht⟩
          clear hx hy hTk hS hrise hUp hC HQ
          by_cases hex : ∃ c ∈ C, c.ky = (xd, xc)
          · obtain ⟨c, hc, hk⟩ := hex
            obtain ⟨cn, cd, cc, co, cw⟩ := c
            obtain ⟨rfl, rfl⟩ := Prod.mk.inj hk
            have HUe : Hid (updC C ⟨cd, cc, xa⟩ = setG C ⟨cn, cd, cc, co, xa⟩) := updC_in HCr.out.keys hc rfl
            have HIn : Hid ((plV (cd, cc), .agg #[.int .i64 cn, .int .i64 cd, .int .i64 cc, .int .i64 co, .int .i64 cw]) ∈ C.map entG) := List.mem_map.2 ⟨_, hc, rfl⟩
            clear hc hk
            go_wp2_with (first
              | (at_lookup; refine wpList_look_in _ rfl _ _ 89 true rfl keyP Tryd.underlying89 rfl (HM5.out _ (HBa.out _ _)) (plV (cd, cc)) (.agg #[.int .i64 cn, .int .i64 cd, .int .i64 cc, .int .i64 co, .int .i64 cw]) rfl ⟨_, rfl⟩ HIn.out ?_)
              | (at_mapUpdate; refine wpList_store _ rfl _ _ _ 89 rfl keyP Tryd.underlying89 rfl (HM5.out _ (HBb.out _ _ _)) (plV (cd, cc)) (.agg #[.int .i64 cn, .int .i64 cd, .int .i64 cc, .int .i64 co, .int .i64 xa]) rfl rfl ⟨_, rfl⟩ ?_; intro w6 hm6 hg6 hs6))
            have HN := Lib.hid (HStep.out w6 _ HUe.out hm6 ((Turn.of_below (HBb.out _ _ _)).trans (Turn.of_grown (bs := [w2.heap.size]) hg6 (by simp) |> fun h => (⟨h.os, h.tape, h.output, h.size, h.block⟩ : Turn _ _ _))))
            clear hm6 hg6 hs6 HStep HM5 HUe HIn HCr HUp HBa HBb
            go_roundw
            case rel => exact ⟨j + 1, by omega, by go_num, HN.out⟩
            case measure => simp [intOf]; omega
          · have HUe : Hid (updC C ⟨xd, xc, xa⟩ = setG C ⟨-1, xd, xc, 0, xa⟩) := updC_out fun c hc e => hex ⟨c, hc, e⟩
            have HOut : Hid (∀ v, (plV (xd, xc), v) ∉ C.map entG) := fun v hv => by
              obtain ⟨c, hc, e⟩ := List.mem_map.1 hv
              exact hex ⟨c, hc, plV_inj (Prod.mk.inj e).1⟩
            clear hex
            go_wp2_with (first
              | (at_lookup; refine wpList_look_out _ rfl _ _ 89 true rfl keyP Tryd.underlying89 Tryd.zeroValue39 rfl (HM5.out _ (HBa.out _ _)) (plV (xd, xc)) rfl ⟨_, rfl⟩ HOut.out ?_)
              | (at_mapUpdate; refine wpList_store _ rfl _ _ _ 89 rfl keyP Tryd.underlying89 rfl (HM5.out _ (HBb.out _ _ _)) (plV (xd, xc)) (.agg #[.int .i64 (-1), .int .i64 xd, .int .i64 xc, .int .i64 0, .int .i64 xa]) rfl rfl ⟨_, rfl⟩ ?_; intro w6 hm6 hg6 hs6))
            have HN := Lib.hid (HStep.out w6 _ HUe.out hm6 ((Turn.of_below (HBb.out _ _ _)).trans (Turn.of_grown (bs := [w2.heap.size]) hg6 (by simp) |> fun h => (⟨h.os, h.tape, h.output, h.size, h.block⟩ : Turn _ _ _))))
            clear hm6 hg6 hs6 HStep HM5 HUe HOut HCr HUp HBa HBb
            go_roundw
            case rel => exact ⟨j + 1, by omega, by go_num, HN.out⟩
            case measure => simp [intOf]; omega
        · obtain rfl : j = f.length := by omega
          rw [List.take_length] at hC
          have hlen := allC_len hC.keys (fun c hc => (hC.mem c).1 hc)
          have HS := Lib.hid (sortedC_ok w2.heap.size (C.map entG) (C.map Cg.ky) (entG_keys C) wr hC.map (by rw [List.length_map]; omega))
          have hbr : Below w.heap.size w wr := HB4.out.trans (hC.turn.below (by omega) (fun b hb => by rw [List.mem_singleton.1 hb]; exact zw2))
          have HBr := Lib.hid hbr
          have HCr := Lib.hid hC
          clear hbr hC HQ HRelA
          go_wp2_with fail
          with_reducible refine HS.out.mono ?_
          rintro e w5 ⟨aK, cK, K, rfl, hKp, hKr, hKc, hb5, hKx⟩
          obtain ⟨s, hsp, hsK⟩ := sorted_lift K C hKp
          have hKl : K.length = s.length := by rw [← hsK, List.length_map]
          have hsr : Rising Cg.ky s := by
            rw [← hsK] at hKr
            exact List.pairwise_map.1 hKr
          have HPl : Hid (IsPlan l f (s.filter fun c => decide (c.o ≠ c.n))) := plan_sorted hsr fun c => (hsp.mem_iff).trans (HCr.out.mem c)
          have hsl : s.length ≤ 2000 := by rw [hsp.length_eq]; omega
          have HKs := Lib.hid hsK
          have HSp := Lib.hid hsp
          have HKc := Lib.hid hKc
          have HM5 := Lib.hid (HCr.out.map.after hb5)
          have HB5 := Lib.hid (HBr.out.trans (hb5.mono HBr.out.size))
          have z5 := HB5.out.size
          rw [hKl]
          clear hKp hKr hKc hb5 hKx hsr hsp hsK HS HSl H H'
          go_wp2_with fail
          go_loopw [16, 87] (fun v i wq => ∃ j : Nat, j ≤ s.length ∧ i = .int .i64 j ∧ Hid (wq.ownsRow w5.heap.size 39 5 v ((s.take j).filter fun c => decide (c.o ≠ c.n)).length (cellsL encG ((s.take j).filter fun c => decide (c.o ≠ c.n)))) ∧ Hid (Below w5.heap.size w5 wq)) (fun _ i _ => s.length - (intOf i).toNat)
          case atStart => exact ⟨0, by omega, rfl, World.ownsRow_nil _ _ _ _, Below.refl _ _⟩
          case round =>
            obtain ⟨j, hj, rfl, HO, HBq⟩ := hrel
            by_cases hlt : j < s.length
            · have hx := List.getElem?_eq_getElem hlt
              obtain ⟨c, hy⟩ : ∃ c, s[j] = c := ⟨_, rfl⟩
              rw [hy] at hx
              have hTk : s.take (j + 1) = s.take j ++ [c] := by rw [List.take_succ_eq_append_getElem hlt, hy]
              have hcC : c ∈ C := HSp.out.mem_iff.1 (by rw [← hy]; exact List.getElem_mem _)
              have hKj : K[j]? = some c.ky := by rw [← HKs.out, List.getElem?_map, hx]; rfl
              have hR : RecsAt wr aK 2 encP K := RowsAt.after HKc.out HBq.out
              obtain ⟨b, o, rfl, _⟩ := hR (by omega)
              obtain ⟨cn, cd, cc, co, cw⟩ := c
              have p0 : wr.cell? ⟨b, o + j * 2, none⟩ = some (.int .i64 cd) := RecsAt.cell hR rfl (by omega) hKj (j := 0) rfl
              have p1 : wr.cell? ⟨b, o + j * 2 + 1, none⟩ = some (.int .i64 cc) := RecsAt.cell hR rfl (by omega) hKj (j := 1) rfl
              have i1 : (0 : Int) ≤ (j : Int) := by omega
              have i2 : (j : Int) < (s.length : Int) := by omega
              have HIn : Hid ((plV (cd, cc), .agg #[.int .i64 cn, .int .i64 cd, .int .i64 cc, .int .i64 co, .int .i64 cw]) ∈ C.map entG) := List.mem_map.2 ⟨_, hcC, rfl⟩
              have HMq : Hid (∀ o1 : Obj, MapAt OkPl (wr.alloc o1) w2.heap.size (C.map entG)) := fun o1 => (HM5.out.after HBq.out).after ((Below.refl _ _).alloc (Nat.le_refl _) _)
              have HBa : Hid (∀ o1 o2 : Obj, Below w5.heap.size w5 ((wr.alloc o1).alloc o2)) := fun o1 o2 => HBq.out.trans ((((Below.refl _ _).alloc (Nat.le_refl _) _).alloc (by simp) _).mono HBq.out.size)
              have hfl : ((s.take j).filter fun c => decide (c.o ≠ c.n)).length ≤ s.length := Nat.le_trans (List.length_filter_le _ _) (by rw [List.length_take]; omega)
              have zq := HBq.out.size
              clear hx hy hcC hKj hR
              by_cases hne : co = cw
              · have e1 : (co == cw) = true := by rw [beq_iff_eq]; exact hne
                have HT : Hid ((s.take (j + 1)).filter (fun c => decide (c.o ≠ c.n)) = (s.take j).filter fun c => decide (c.o ≠ c.n)) := by
                  show _ = _
                  rw [hTk, List.filter_append]
                  simp [hne]
                have HO2 : Hid (∀ o1 o2 : Obj, ((wr.alloc o1).alloc o2).ownsRow w5.heap.size 39 5 u16 ((s.take (j + 1)).filter fun c => decide (c.o ≠ c.n)).length (cellsL encG ((s.take (j + 1)).filter fun c => decide (c.o ≠ c.n)))) := fun o1 o2 => by rw [HT.out]; exact (HO.out.alloc _).alloc _
                clear hTk HO hne
                go_wp2_with (at_lookup; refine wpList_look_in _ rfl _ _ 89 false rfl keyP Tryd.underlying89 rfl (HMq.out _) (plV (cd, cc)) (.agg #[.int .i64 cn, .int .i64 cd, .int .i64 cc, .int .i64 co, .int .i64 cw]) rfl ⟨_, rfl⟩ HIn.out ?_)
                go_roundw
                case rel => exact ⟨j + 1, by omega, by go_num, HO2.out _ _, HBa.out _ _⟩
                case measure => simp [intOf]; omega
              · have e1 : (co == cw) = false := by rw [beq_eq_false_iff_ne]; exact hne
                have HT : Hid ((s.take (j + 1)).filter (fun c => decide (c.o ≠ c.n)) = (s.take j).filter (fun c => decide (c.o ≠ c.n)) ++ [⟨cn, cd, cc, co, cw⟩]) := by
                  show _ = _
                  rw [hTk, List.filter_append]
                  simp [hne]
                have HO2 : Hid (∀ o1 o2 o3 : Obj, (((wr.alloc o1).alloc o2).alloc o3).ownsRow w5.heap.size 39 5 u16 ((s.take j).filter fun c => decide (c.o ≠ c.n)).length (cellsL encG ((s.take j).filter fun c => decide (c.o ≠ c.n)))) := fun o1 o2 o3 => ((HO.out.alloc _).alloc _).alloc _
                have HNw : Hid (∀ (o1 o2 : Obj) (i : Nat) (u : Value), [Value.int .i64 cn, .int .i64 cd, .int .i64 cc, .int .i64 co, .int .i64 cw][i]? = some u → (((wr.alloc o1).alloc o2).alloc (.cells #[.int .i64 cn, .int .i64 cd, .int .i64 cc, .int .i64 co, .int .i64 cw] 39)).cell? ((⟨wr.heap.size + 1 + 1, 0, none⟩ : Addr).add i) = some u) := fun o1 o2 => by
                  have := World.news_of_block (cs := #[.int .i64 cn, .int .i64 cd, .int .i64 cc, .int .i64 co, .int .i64 cw]) (t := 39) (fr := (0, 0)) (heap_alloc_new ((wr.alloc o1).alloc o2) _)
                  simpa using this
                have HOw := HO.out
                obtain ⟨FL, hFL⟩ : ∃ F, (s.take j).filter (fun c => decide (c.o ≠ c.n)) = F := ⟨_, rfl⟩
                rw [hFL] at HT HO2 hfl HOw
                have HOw' := Lib.hid HOw
                have HBc : Hid (∀ o1 o2 o3 : Obj, Below w5.heap.size w5 (((wr.alloc o1).alloc o2).alloc o3)) := fun o1 o2 o3 => (HBa.out o1 o2).alloc (HBa.out o1 o2).size _
                clear hTk HO hne hFL HOw
                go_wp2_with (first
                  | (at_lookup; refine wpList_look_in _ rfl _ _ 89 false rfl keyP Tryd.underlying89 rfl (HMq.out _) (plV (cd, cc)) (.agg #[.int .i64 cn, .int .i64 cd, .int .i64 cc, .int .i64 co, .int .i64 cw]) rfl ⟨_, rfl⟩ HIn.out ?_)
                  | (at_builtin; refine wpList_append_own _ rfl (.tmp 99) (.tmp 101) 28 rfl w5.heap.size 39 i0 _ 5 40 Tryd.underlying28 hi hz0 hz1 hz2 rfl (by decide) u16 FL.length _ rfl (HO2.out _ _ _) ⟨wr.heap.size + 1 + 1, 0, none⟩ 1 1 [.int .i64 cn, .int .i64 cd, .int .i64 cc, .int .i64 co, .int .i64 cw] rfl rfl (HNw.out _ _) (by simp [Value.oneCell']) (by unfold maxLen; omega) (by omega) (HBc.out _ _ _).size ?_; intro v' w7 hown' hgrow _))
                have HO3 : Hid (w7.ownsRow w5.heap.size 39 5 v' ((s.take (j + 1)).filter fun c => decide (c.o ≠ c.n)).length (cellsL encG ((s.take (j + 1)).filter fun c => decide (c.o ≠ c.n)))) := by
                  show World.ownsRow _ _ _ _ _ _ _
                  rw [HT.out, List.length_append, cellsL_snoc]
                  exact hown'
                have HB3 : Hid (Below w5.heap.size w5 w7) := (HBc.out _ _ _).grown hgrow (HBc.out _ _ _).size (fun k e => (own_cells HOw'.out e).1)
                clear hown' hgrow
                go_roundw
                case rel => exact ⟨j + 1, by omega, by go_num, HO3.out, HB3.out⟩
                case measure => simp [intOf]; omega
            · obtain rfl : j = s.length := by omega
              have hO := HO.out
              rw [List.take_length] at hO
              obtain ⟨ar, cr, rfl, hSl, hXl⟩ := sl_own (enc := encG) (fun _ => rfl) hO
              have HF : Hid (PlanEnd w l f (.returned (.tuple #[.slice ar (s.filter fun c => decide (c.o ≠ c.n)).length cr, .int .i64 0])) wr) := ⟨ar, cr, _, by rw [HPE.out], hSl, fun _ => HPl.out, fun e => absurd HPE.out e, HB5.out.trans (HBq.out.mono z5), fun x e => (by have := (hXl x e).1; omega), own_downG hO z5⟩
              clear hO HO hSl hXl HBq
              go_wp2_with fail
              go_ret2
              exact HF.out

end Go.Proofs.YtmjgcenhgpkhiaaDoor
