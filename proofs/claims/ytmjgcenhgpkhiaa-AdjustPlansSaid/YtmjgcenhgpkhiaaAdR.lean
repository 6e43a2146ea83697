/- The statement AdjustTurns: the walk. -/
import Derived.Test.YtmjgcenhgpkhiaaAdQ
namespace Go.Proofs.Ytmjgcenhgpkhiaa
open Go.RowKit Go.Sort Go.Shelf
set_option linter.unusedVariables false
set_option linter.unusedSimpArgs false

def turnV (xs : List Lv) (s k : Nat) : List Lv := (List.range k).map fun i => xs.getD ((s + i) % xs.length) default
theorem turnV_succ (xs : List Lv) (s k : Nat) : turnV xs s (k + 1) = turnV xs s k ++ [xs.getD ((s + k) % xs.length) default] := by simp [turnV, List.range_succ]
theorem turnV_len (xs : List Lv) (s k : Nat) : (turnV xs s k).length = k := by simp [turnV]
theorem turnV_drop {xs : List Lv} {s : Nat} (h : s < xs.length) : turnV xs s (xs.length - s) = xs.drop s := by
  refine List.ext_getElem? fun i => ?_
  by_cases hi : i < xs.length - s
  · have h1 : (s + i) % xs.length = s + i := Nat.mod_eq_of_lt (by omega)
    simp [turnV, hi, h1, List.getElem?_drop, List.getD_eq_getElem?_getD, show s + i < xs.length by omega]
  · rw [List.getElem?_eq_none (by rw [turnV_len]; omega), List.getElem?_eq_none (by rw [List.length_drop]; omega)]
theorem turnV_full {xs : List Lv} {s : Nat} (h : s < xs.length) : turnV xs s xs.length = xs.drop s ++ xs.take s := by
  have h1 : xs.length = (xs.length - s) + s := by omega
  rw [← turnV_drop h]
  have e : turnV xs s xs.length = turnV xs s ((xs.length - s) + s) := by rw [← h1]
  rw [e]
  unfold turnV
  rw [List.range_add, List.map_append, List.map_map]
  congr 1
  refine List.ext_getElem? fun i => ?_
  by_cases hi : i < s
  · have h2 : (s + (xs.length - s + i)) % xs.length = i := by
      rw [show s + (xs.length - s + i) = i + xs.length by omega, Nat.add_mod_right, Nat.mod_eq_of_lt (by omega)]
    simp [hi, h2, List.getD_eq_getElem?_getD, show i < xs.length by omega]
  · rw [List.getElem?_eq_none (by simp; omega), List.getElem?_eq_none (by rw [List.length_take]; omega)]
theorem turnV_perm {xs : List Lv} {s : Nat} (h : s < xs.length) : (turnV xs s xs.length).Perm xs := by
  rw [turnV_full h]
  have := (List.perm_append_comm : (xs.drop s ++ xs.take s).Perm (xs.take s ++ xs.drop s))
  rwa [List.take_append_drop] at this
theorem tmod_in (x : Int) (n : Nat) (hn : 0 < n) : -(n : Int) < x.tmod n ∧ x.tmod n < n := by
  rcases Int.le_total 0 x with h | h
  · rw [Int.tmod_eq_emod_of_nonneg h]
    have h1 := Int.emod_nonneg x (show (n : Int) ≠ 0 by omega)
    have h2 := Int.emod_lt_of_pos x (show (0 : Int) < n by omega)
    omega
  · rw [show x = -(-x) by omega, Int.neg_tmod, Int.tmod_eq_emod_of_nonneg (by omega)]
    have h1 := Int.emod_nonneg (-x) (show (n : Int) ≠ 0 by omega)
    have h2 := Int.emod_lt_of_pos (-x) (show (0 : Int) < n by omega)
    omega
theorem turn_ix (fr : Int) (n k : Nat) (hn : 0 < n) (hn40 : n ≤ 1000) (hk : k < n) : (RowKit.wrap64 ((RowKit.wrap64 (fr.tmod (n : Int) + (n : Int))).tmod (n : Int) + (k : Int))).tmod (n : Int) = (((((fr.tmod (n : Int) + (n : Int)).tmod (n : Int)).toNat + k) % n : Nat) : Int) := by
  obtain ⟨r1, r2⟩ := tmod_in fr n hn
  generalize fr.tmod (n : Int) = R at *
  have w1 : RowKit.wrap64 (R + (n : Int)) = R + (n : Int) := by unfold RowKit.wrap64; omega
  rw [w1]
  obtain ⟨q1, q2⟩ := tmod_in (R + n) n hn
  have q0 : 0 ≤ (R + (n : Int)).tmod (n : Int) := by rw [Int.tmod_eq_emod_of_nonneg (by omega)]; exact Int.emod_nonneg _ (by omega)
  generalize (R + (n : Int)).tmod (n : Int) = Q at *
  have w2 : RowKit.wrap64 (Q + (k : Int)) = Q + (k : Int) := by unfold RowKit.wrap64; omega
  rw [w2, Int.tmod_eq_emod_of_nonneg (by omega), Int.natCast_emod]
  congr 1
  omega
theorem turn_s (fr : Int) (n : Nat) (hn : 0 < n) : ((fr.tmod (n : Int) + (n : Int)).tmod (n : Int)).toNat < n := by
  have := tmod_in (fr.tmod (n : Int) + (n : Int)) n hn
  omega

theorem planE_perm {l l' : List Lv} (f : List Fl) (h : l.Perm l') : planE l f = planE l' f := by unfold planE; rw [ckE_perm h]
/-- What lies behind the flows that were wanted, or those that were there. -/
def behind (l : List Lv) (f : List Fl) : List Fl := if planE l f = 0 then f else flowsOf l
theorem plan_behind {l : List Lv} {f : List Fl} {p : List Cg} (h0 : planE l f = 0 → IsPlan l f p) (h1 : planE l f ≠ 0 → p = []) : ckE l = 0 → ordB (behind l f) = true ∧ IsPlan l (behind l f) p := fun hk => by
  unfold behind
  by_cases h : planE l f = 0
  · rw [if_pos h]
    refine ⟨?_, h0 h⟩
    unfold planE at h
    rw [if_pos hk] at h
    unfold ordE at h
    split at h
    · assumption
    · cases h
  · rw [if_neg h, h1 h]
    exact plan_none hk
theorem plan_short {l : List Lv} {f : List Fl} {p : List Cg} (h0 : planE l f = 0 → IsPlan l f p) (h1 : planE l f ≠ 0 → p = []) : p.length ≤ l.length + f.length := by
  by_cases h : planE l f = 0
  · exact plan_len (h0 h)
  · rw [h1 h]; simp
theorem behind_len {l : List Lv} {f : List Fl} (hk : ckE l = 0) : (behind l f).length ≤ l.length + f.length := by
  unfold behind
  split
  · omega
  · have := flowsOf_len (ckE_ok hk).2.2.1; omega
theorem apF_len {l : List Lv} {f : List Fl} : (apF l (behind l f)).length ≤ l.length + f.length := by
  unfold apF
  split
  · rename_i h; exact behind_len h
  · simp
theorem apF_perm {l l' : List Lv} (f : List Fl) (h : l.Perm l') : apF l (behind l f) = apF l' (behind l' f) := by
  unfold apF behind
  rw [planE_perm f h, ← ckE_perm h]
  split
  · rename_i hk
    rw [flowsOf_perm (ckE_ok hk).2.2.1 h]
  · rfl
set_option maxHeartbeats 16000000 in
set_option maxRecDepth 100000 in
theorem turns_law (a : Option Addr) (cap : Nat) (l : List Lv) (a' : Option Addr) (cap' : Nat) (f : List Fl) (fr : Int) (hl0 : l.length ≤ 9223372036854775807) (hf0 : f.length ≤ 9223372036854775807) (w : World) (h : SlG w 4 encL a cap l) (h' : SlG w 3 encW a' cap' f) (hwf : ∀ x ∈ l, Lv.Ok x) :
    Calls Try.prog 6 #[.slice a l.length cap, .slice a' f.length cap', .int .i64 fr] w (TrueEnd w) := by
  obtain ⟨i0, hi, hz0, hz1, hz2⟩ := info_parts infoLv
  have H := Lib.hid h
  have H' := Lib.hid h'
  have HWf := Lib.hid hwf
  have HB0 : Hid (Below w.heap.size w w) := Below.refl _ _
  clear h h' hwf
  go_enter Try.func6, Try.ntmps6
  by_cases h1 : 30 < l.length
  · have d1 : decide (30 < l.length) = true := decide_eq_true h1
    have d2 : decide ((30 : Int) < (l.length : Int)) = true := decide_eq_true (by omega)
    clear h1
    go_wp2_with fail
    with_reducible refine (awake_ok _).mono ?_
    rintro e w90 ⟨rfl, hb90⟩
    go_wp2_with fail
    go_ret
    exact ⟨rfl, HB0.out.trans (hb90.mono HB0.out.size)⟩
  have d1 : decide (30 < l.length) = false := decide_eq_false h1
  have d2 : decide ((30 : Int) < (l.length : Int)) = false := decide_eq_false (by omega)
  by_cases h0 : l.length = 0
  · have d3 : ((l.length : Int) == 0) = true := by rw [beq_iff_eq]; omega
    have d3' : (l.length == 0) = true := by rw [beq_iff_eq]; omega
    have hli : (l.length : Int) = 0 := by omega
    clear h1
    go_wp2_with fail
    with_reducible refine (awake_ok _).mono ?_
    rintro e w90 ⟨rfl, hb90⟩
    go_wp2_with fail
    go_ret
    exact ⟨rfl, HB0.out.trans (hb90.mono HB0.out.size)⟩
  have d3 : ((l.length : Int) == 0) = false := by rw [beq_eq_false_iff_ne]; omega
  have d3' : (l.length == 0) = false := by rw [beq_eq_false_iff_ne]; omega
  by_cases h2 : 30 < f.length
  · have d5 : decide (30 < f.length) = true := decide_eq_true h2
    have d4 : decide ((30 : Int) < (f.length : Int)) = true := decide_eq_true (by omega)
    clear h1 h2 h0
    go_wp2_with fail
    with_reducible refine (awake_ok _).mono ?_
    rintro e w90 ⟨rfl, hb90⟩
    go_wp2_with fail
    go_ret
    exact ⟨rfl, HB0.out.trans (hb90.mono HB0.out.size)⟩
  have d5 : decide (30 < f.length) = false := decide_eq_false h2
  have d4 : decide ((30 : Int) < (f.length : Int)) = false := decide_eq_false (by omega)
  have hl : l.length ≤ 30 := by omega
  have hf : f.length ≤ 30 := by omega
  have hpos : 0 < l.length := by omega
  clear h1 h2 h0
  go_wp2_with fail
  obtain ⟨n, hn⟩ : ∃ n, l.length = n := ⟨_, rfl⟩
  have HN := Lib.hid hn
  rw [hn] at hl hpos ⊢
  clear hn d1 d2 d3 d3' d4 d5
  obtain ⟨s, hs⟩ : ∃ s : Nat, s = ((fr.tmod (n : Int) + n).tmod (n : Int)).toNat := ⟨_, rfl⟩
  have HSn : Hid (s < n) := by rw [hs]; exact turn_s fr n hpos
  go_loopw [8, 9] (fun v i wr => ∃ k : Nat, k ≤ n ∧ i = .int .i64 (k : Int) ∧ Hid (wr.ownsRow w.heap.size 42 4 v (turnV l s k).length (cellsL encL (turnV l s k))) ∧ Hid (Below w.heap.size w wr)) (fun _ i _ => n - (intOf i).toNat)
  case atStart => exact ⟨0, by omega, rfl, (show w.ownsRow _ _ _ _ _ _ from World.ownsRow_nil _ _ _ _), HB0⟩
  case round =>
    obtain ⟨k, hk, rfl, HO, HB⟩ := hrel
    by_cases hlt : k < n
    · have hkn : (k : Int) < (n : Int) := by omega
      have hn0 : ((n : Int) == 0) = false := by simp; omega
      have hn1 : (n : Int) ≠ 0 := by omega
      have hix := turn_ix fr n k (by omega) (by omega) hlt
      rw [← hs] at hix
      have hjn : (s + k) % n < n := Nat.mod_lt _ (by omega)
      obtain ⟨j, hj⟩ : ∃ j, (s + k) % n = j := ⟨_, rfl⟩
      rw [hj] at hix hjn
      have hjn' : (j : Int) < (n : Int) := by omega
      have hjl : j < l.length := by rw [HN.out]; exact hjn
      have hS := H.out.after HB.out
      rcases hS.sh with h0 | ⟨b, o, rfl, hbl⟩
      · rw [h0] at hjl; exact absurd hjl (by simp)
      have hx := List.getElem?_eq_getElem hjl
      obtain ⟨x, hy⟩ : ∃ x, l[j] = x := ⟨_, rfl⟩
      rw [hy] at hx
      have hsucc := turnV_succ l s k
      rw [HN.out, hj, List.getD_eq_getElem?_getD, hx] at hsucc
      have HSU : Hid (turnV l s (k + 1) = turnV l s k ++ [x]) := hsucc
      obtain ⟨xn, xd, xc, xa⟩ := x
      have p0 : wr.cell? ⟨b, o + j * 4, none⟩ = some (.int .i64 xn) := RecsAt.cell hS.recs rfl hjl hx (j := 0) rfl
      have p1 : wr.cell? ⟨b, o + j * 4 + 1, none⟩ = some (.int .i64 xd) := RecsAt.cell hS.recs rfl hjl hx (j := 1) rfl
      have p2 : wr.cell? ⟨b, o + j * 4 + 2, none⟩ = some (.int .i64 xc) := RecsAt.cell hS.recs rfl hjl hx (j := 2) rfl
      have p3 : wr.cell? ⟨b, o + j * 4 + 3, none⟩ = some (.int .i64 xa) := RecsAt.cell hS.recs rfl hjl hx (j := 3) rfl
      have hF1 : (turnV l s k).length = k := turnV_len _ _ _
      have HLT := Lib.hid hlt
      have zb := HB.out.size
      obtain ⟨w3, hw3⟩ : ∃ W, wr.alloc (.cells #[.int .i64 xn, .int .i64 xd, .int .i64 xc, .int .i64 xa] 42) = W := ⟨_, rfl⟩
      have hb3 : Below wr.heap.size wr w3 := by rw [← hw3]; exact (Below.refl _ _).alloc (Nat.le_refl _) _
      have HB3 := Lib.hid hb3
      have HW3 := Lib.hid hw3
      have HO3 : Hid (∀ o, (wr.alloc o).ownsRow w.heap.size 42 4 u8 (turnV l s k).length (cellsL encL (turnV l s k))) := fun o => HO.out.alloc o
      clear hsucc hx hy hj hs hlt hw3 hb3 hS
      go_wp2_with (at_builtin; refine wpList_append_own_at _ rfl (.tmp 37) (.tmp 52) 22 rfl w.heap.size 42 i0 _ 4 32 Try.underlying22 hi hz0 hz1 hz2 rfl (by decide) u8 (turnV l s k).length _ rfl (HO3.out _) ⟨wr.heap.size, 0, none⟩ 1 1 [.int .i64 xn, .int .i64 xd, .int .i64 xc, .int .i64 xa] rfl rfl (World.news_of_block (cs := #[.int .i64 xn, .int .i64 xd, .int .i64 xc, .int .i64 xa]) (t := 42) (fr := (0, 0)) (heap_alloc_new wr _)) (by simp [Value.oneCell']) (by unfold maxLen; omega) (by omega) (by simp; omega) ?_; intro v' w7 hown' hgrow hnil hat)
      have HN2 : Hid (w7.ownsRow w.heap.size 42 4 v' (turnV l s (k + 1)).length (cellsL encL (turnV l s (k + 1)))) := by
        show World.ownsRow _ _ _ _ _ _ _
        rw [HSU.out, List.length_append, cellsL_snoc]
        exact hown'
      have HB7 : Hid (Below w.heap.size w w7) := (HB.out.trans (HB3.out.mono zb)).grown (by rw [← HW3.out]; exact hgrow) (by have := HB3.out.size; omega) (fun k e => (own_cells HO.out e).1)
      clear hown' hgrow hnil hat
      have hlt := HLT.out
      go_roundw
      case rel => exact ⟨k + 1, by omega, by go_num, HN2.out, HB7.out⟩
      case measure => simp [intOf]; omega
    · obtain rfl : n = k := by omega
      obtain ⟨T, hT⟩ : ∃ T, turnV l s n = T := ⟨_, rfl⟩
      have hperm : T.Perm l := by rw [← hT, ← HN.out]; exact turnV_perm (by rw [HN.out]; exact HSn.out)
      have hO := HO.out
      rw [hT] at hO
      obtain ⟨aT, cT, rfl, hST, hXT⟩ := sl_own (enc := encL) (fun _ => rfl) hO
      have HPm := Lib.hid hperm
      have hTl : T.length = n := by rw [hperm.length_eq, HN.out]
      rw [hTl]
      have HTl := Lib.hid hTl
      have HT := Lib.hid hST
      have hwT : ∀ x ∈ T, Lv.Ok x := fun x hx => HWf.out x (hperm.mem_iff.1 hx)
      have HWT := Lib.hid hwT
      have hc1 := plan_ok a cap l a' cap' f wr (H.out.after HB.out) (H'.out.after HB.out) (by rw [HN.out]; omega) (by omega) HWf.out
      rw [HN.out] at hc1
      have HC1 := Lib.hid hc1
      clear hO HO hST hXT hperm hTl hwT hc1 hT
      go_wp2_with fail
      with_reducible refine HC1.out.mono ?_
      rintro e w1 ⟨a1, c1, p, rfl, hs1, hp1, hn1, hb1, _, _⟩
      have HS1 := Lib.hid hs1
      have HP1 := Lib.hid hp1
      have HN1 := Lib.hid hn1
      have z0 := HB.out.size
      have HB1 : Hid (Below wr.heap.size wr w1) := hb1
      have z1 := hb1.size
      have hc2 := plan_ok aT cT T a' cap' f w1 (HT.out.g.after hb1) (H'.out.after (HB.out.trans (hb1.mono z0))) (by rw [HTl.out]; omega) (by omega) HWT.out
      rw [HTl.out] at hc2
      have HC2 := Lib.hid hc2
      clear hs1 hp1 hn1 hb1 hc2 HC1
      go_wp2_with fail
      with_reducible refine HC2.out.mono ?_
      rintro e w2 ⟨a2, c2, q, rfl, hs2, hq1, hn2, hb2, _, _⟩
      rw [planE_perm f HPm.out] at hq1 hn2
      rw [planE_perm f HPm.out]
      have hpq : p = q := by
        by_cases hE : planE l f = 0
        · exact (HP1.out hE).one ((hq1 hE).perm HPm.out)
        · rw [HN1.out hE, hn2 hE]
      subst hpq
      have HS2 := Lib.hid hs2
      have HB2 : Hid (Below wr.heap.size wr w2) := HB1.out.trans (hb2.mono z1)
      have HS12 : Hid (SlAt w2 5 encG a1 c1 p) := HS1.out.after hb2
      have hpl := plan_short HP1.out HN1.out
      rw [HN.out] at hpl
      have hbl := plan_behind HP1.out HN1.out
      have hbT : ckE T = 0 → ordB (behind T f) = true ∧ IsPlan T (behind T f) p := plan_behind (fun e => (HP1.out (by rw [← planE_perm f HPm.out]; exact e)).perm HPm.out.symm) (fun e => HN1.out (by rw [← planE_perm f HPm.out]; exact e))
      have ha1 := apply_ok a cap l a1 c1 p (behind l f) w2 (H.out.after (HB.out.trans (HB2.out.mono z0))) HS12.out.g (by rw [HN.out]; omega) (by omega) HWf.out hbl
      rw [HN.out] at ha1
      have hxl : (apF l (behind l f)).length ≤ n + f.length := by have := apF_len (l := l) (f := f); rw [HN.out] at this; exact this
      have ha2 : ∀ W, Below w2.heap.size w2 W → Calls Try.prog 17 #[.slice aT n cT, .slice a2 p.length c2] W (ApEnd W (apF l (behind l f)) (ckE l)) := fun W hW => by
        have := apply_ok aT cT T a2 c2 p (behind T f) W ((HT.out.after HB2.out).after hW).g (HS2.out.after hW).g (by rw [HTl.out]; omega) (by omega) HWT.out hbT
        rw [HTl.out, apF_perm f HPm.out, ckE_perm HPm.out] at this
        exact this
      obtain ⟨X, hX⟩ : ∃ X, apF l (behind l f) = X := ⟨_, rfl⟩
      obtain ⟨C, hC⟩ : ∃ C, ckE l = C := ⟨_, rfl⟩
      obtain ⟨E, hE⟩ : ∃ E, planE l f = E := ⟨_, rfl⟩
      rw [hX] at ha1 ha2 hxl
      rw [hC] at ha1 ha2
      rw [hE]
      have HA1 := Lib.hid ha1
      have HA2 := Lib.hid ha2
      have z2 := HB2.out.size
      have eE : (E == E) = true := beq_self_eq_true E
      have eC : (C == C) = true := beq_self_eq_true C
      clear hs2 hq1 hn2 hb2 HC2 hbl hbT ha1 ha2 hX hC hE HP1 HN1
      go_wp2_with fail
      with_reducible refine HA1.out.mono ?_
      rintro e w3 ⟨a3, c3, rfl, hs3, hb3⟩
      have HS3 := Lib.hid hs3
      have HB3 := Lib.hid hb3
      have HA3 := Lib.hid (HA2.out w3 hb3)
      clear hs3 hb3 HA1 HA2
      go_wp2_with fail
      with_reducible refine HA3.out.mono ?_
      rintro e w4 ⟨a4, c4, rfl, hs4, hb4⟩
      have z3 := HB3.out.size
      have HB4 : Hid (Below w2.heap.size w2 w4) := HB3.out.trans (hb4.mono z3)
      have HSm := Lib.hid (same_ok a1 a2 c1 c2 p w4 (HS12.out.after HB4.out).recs (HS2.out.after HB4.out).recs (by omega))
      have HFl : Hid (∀ W, Below w4.heap.size w4 W → Calls Try.prog 18 #[.slice a3 X.length c3, .slice a4 X.length c4] W (TrueEnd W)) := fun W hW => flows_ok a3 a4 c3 c4 X W ((HS3.out.after hb4).after hW).recs (hs4.after hW).recs (by omega)
      have HB5 : Hid (Below w.heap.size w w4) := HB.out.trans ((HB2.out.trans (HB4.out.mono z2)).mono z0)
      clear hs4 hb4 HA3
      go_wp2_with fail
      with_reducible refine HSm.out.mono ?_
      rintro e w5 ⟨rfl, hb5⟩
      have HF5 := Lib.hid (HFl.out w5 hb5)
      have z4 := HB5.out.size
      have HB6 : Hid (Below w.heap.size w w5) := HB5.out.trans (hb5.mono z4)
      clear hb5 HSm HFl
      go_wp2_with fail
      with_reducible refine HF5.out.mono ?_
      rintro e w6 ⟨rfl, hb6⟩
      have z5 := HB6.out.size
      have HB7 : Hid (Below w.heap.size w w6) := HB6.out.trans (hb6.mono z5)
      clear hb6 HF5
      go_wp2_with fail
      with_reducible refine (awake_ok _).mono ?_
      rintro e w90 ⟨rfl, hb90⟩
      go_wp2_with fail
      go_ret
      exact ⟨rfl, HB7.out.trans (hb90.mono HB7.out.size)⟩

end Go.Proofs.Ytmjgcenhgpkhiaa
