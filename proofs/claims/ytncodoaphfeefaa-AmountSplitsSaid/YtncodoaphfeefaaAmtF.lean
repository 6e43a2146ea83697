/- amount.Split: the walk. -/
import Derived.Test.YtncodoaphfeefaaAmtE
import Derived.Deep.LoopGhost
import Derived.Deep.AppendLies
namespace Go.Proofs.Ytncodoaphfeefaa
open Go.RowKit Go.Shelf Go.Lib Go.Sort
set_option linter.unusedVariables false
set_option linter.unusedSimpArgs false

theorem fold_min : ∀ (zs : List Int) (a : Int), zs.foldl min a ≤ a ∧ (∀ z ∈ zs, zs.foldl min a ≤ z) ∧ (zs.foldl min a = a ∨ zs.foldl min a ∈ zs)
  | [], a => ⟨Int.le_refl _, fun z h => by simp at h, Or.inl rfl⟩
  | y :: zs, a => by
    obtain ⟨h1, h2, h3⟩ := fold_min zs (min a y)
    rw [List.foldl_cons]
    refine ⟨by omega, fun z hz => ?_, ?_⟩
    · rcases List.mem_cons.1 hz with rfl | hz
      · omega
      · exact h2 z hz
    · rcases h3 with h3 | h3
      · rw [h3]
        rcases Int.le_total a y with g | g
        · exact Or.inl (by omega)
        · exact Or.inr (by rw [show min a y = y by omega]; simp)
      · exact Or.inr (List.mem_cons_of_mem _ h3)
theorem minOf_neg {zs : List Int} (hz : zs ≠ []) : Lib.minOf zs < 0 ↔ ∃ z ∈ zs, z < 0 := by
  cases zs with
  | nil => exact absurd rfl hz
  | cons x zs =>
    obtain ⟨h1, h2, h3⟩ := fold_min (x :: zs) x
    constructor
    · intro h
      rcases h3 with h3 | h3
      · exact ⟨x, by simp, by rw [← h3]; exact h⟩
      · exact ⟨_, h3, h⟩
    · rintro ⟨z, hz, h⟩
      have := h2 z hz
      show (x :: zs).foldl min x < 0
      omega

theorem own_after {w w' : World} {base e size n : Nat} {v : Value} {xs : List Value} (h : w.ownsRow base e size v n xs) (hb : RowKit.Below w.heap.size w w') : w'.ownsRow base e size v n xs := h.kept (row := none) (below_row hb none) (Classical.em _)
theorem own_kept {w w1 : World} {b b' size size' n n' : Nat} {e e' : TypeId} {v v' : Value} {xs xs' : List Value} (h : w.ownsRow b e size v n xs) (h' : w.ownsRow b' e' size' v' n' xs') (hne : e ≠ e') (hg : w.grownBy w1 v'.ownBlock) : w1.ownsRow b e size v n xs := by
  refine h.kept hg ?_
  rcases h.2 with ⟨rfl, _⟩ | ⟨g, cap, cur, rfl, _, hh, _⟩
  · exact Or.inl rfl
  · rcases h'.2 with ⟨rfl, _⟩ | ⟨g', cap', cur', rfl, _, hh', _⟩
    · exact Or.inr (by simp [Value.ownBlock])
    · refine Or.inr fun eq => hne ?_
      simp only [Value.ownBlock, Option.some.injEq] at eq
      subst eq
      rw [hh] at hh'
      simp only [Option.some.injEq, Obj.cells.injEq] at hh'
      exact hh'.2.1
theorem infoCut : (Try.prog.info? 63).map (fun i => (i.zero, i.size, i.bytes)) = some (some (.agg #[.int .i64 0, .int .u64 0]), 2, 16) := by kernel_rfl

theorem cutsL_asc (T S : Nat) (ws : List Int) (n : Nat) : ∀ a b, a < b → b < (cutsL T S ws n).toArray.size → (((cutsL T S ws n).toArray)[a]!).1 < (((cutsL T S ws n).toArray)[b]!).1 := fun a b h hb => by
  have hsz : (cutsL T S ws n).toArray.size = n := by simp [cutsL_len]
  rw [hsz] at hb
  have e : ∀ i, i < n → (((cutsL T S ws n).toArray)[i]!).1 = i := fun i hi => by simp [cutsL, hi]
  rw [e a (by omega), e b hb]
  exact h

/-- The first k amounts turned, where the total is below nil. -/
def negK (total : Int) (xs : List Int) (k : Nat) : List Int := (List.range xs.length).map fun i => if i < k ∧ total < 0 then -(xs.getD i 0) else xs.getD i 0
theorem negK_len (total : Int) (xs : List Int) (k : Nat) : (negK total xs k).length = xs.length := by simp [negK]
theorem negK_get (total : Int) (xs : List Int) (k i : Nat) (h : i < xs.length) : (negK total xs k)[i]? = some (if i < k ∧ total < 0 then -(xs.getD i 0) else xs.getD i 0) := by simp [negK, h]
theorem negK_zero (total : Int) (xs : List Int) : negK total xs 0 = xs := by
  refine List.ext_getElem? fun i => ?_
  by_cases h : i < xs.length
  · rw [negK_get _ _ _ _ h, if_neg (by omega)]
    simp [List.getD_eq_getElem?_getD, h]
  · rw [List.getElem?_eq_none (by rw [negK_len]; omega), List.getElem?_eq_none (by omega)]
theorem negK_full (total : Int) (xs : List Int) : negK total xs xs.length = xs.map fun x => if total < 0 then -x else x := by
  refine List.ext_getElem? fun i => ?_
  by_cases h : i < xs.length
  · rw [negK_get _ _ _ _ h]
    simp [List.getD_eq_getElem?_getD, h]
  · rw [List.getElem?_eq_none (by rw [negK_len]; omega), List.getElem?_eq_none (by simp; omega)]
theorem negK_up {total : Int} (h : 0 ≤ total) (xs : List Int) (k : Nat) : negK total xs (k + 1) = negK total xs k := by
  unfold negK
  refine List.map_congr_left fun i _ => ?_
  rw [if_neg (by omega), if_neg (by omega)]
theorem negK_down {total : Int} (h : total < 0) (xs : List Int) (k : Nat) (hk : k < xs.length) : (negK total xs k).set k (-(xs.getD k 0)) = negK total xs (k + 1) := by
  refine List.ext_getElem? fun i => ?_
  by_cases hi : i < xs.length
  · rw [negK_get _ _ _ _ hi, List.getElem?_set]
    by_cases e : k = i
    · subst e
      rw [if_pos rfl, if_pos (by rw [negK_len]; exact hi), if_pos ⟨by omega, h⟩]
    · rw [if_neg e, negK_get _ _ _ _ hi]
      by_cases g : i < k
      · rw [if_pos ⟨g, h⟩, if_pos ⟨by omega, h⟩]
      · rw [if_neg (by omega), if_neg (by omega)]
  · rw [List.getElem?_eq_none (by rw [List.length_set, negK_len]; omega), List.getElem?_eq_none (by rw [negK_len]; omega)]
theorem outG_in {T S : Nat} {ws : List Int} {d : Array Cut} {k n : Nat} (hT : sumQ T S ws n ≤ T) (i : Nat) (h : i < n) : 0 ≤ (outG T S ws d k n).getD i 0 ∧ (outG T S ws d k n).getD i 0 ≤ (T : Int) + 1 := by
  rw [outG_get _ _ _ _ _ _ _ h]
  have := qW_one (T := T) (S := S) (ws := ws) (n := n) n (Nat.le_refl _) i h
  split <;> omega

/-- What is wrong with a parting. -/
def splitE (total : Int) (ws : List Int) : Int :=
  if ws.length < 1 ∨ 64 < ws.length then 1 else if ∃ w ∈ ws, w < 0 then 10 else if fitsI ws.sum = false ∨ total = -9223372036854775808 then 11 else if ws.sum = 0 then 12 else 0
def SplitEnd (total : Int) (ws : List Int) (w : World) (e : Ending) (w' : World) : Prop :=
  ∃ v, e = .returned (.tuple #[v, .int .i64 (splitE total ws)]) ∧ Below w.heap.size w w' ∧ (splitE total ws ≠ 0 → v = .slice none 0 0) ∧
    (splitE total ws = 0 → ∃ d, SortedOf (cutsL total.natAbs ws.sum.natAbs ws ws.length).toArray d ∧ w'.ownsRow w.heap.size 3 1 v ws.length ((splitL total total.natAbs ws.sum.natAbs ws d ws.length).map (Value.int .i64)))



set_option maxHeartbeats 8000000 in
set_option maxRecDepth 100000 in
theorem split_ok (total : Int) (t1 : -9223372036854775808 ≤ total) (t2 : total ≤ 9223372036854775807) (a : Option Addr) (cap : Nat) (ws : List Int) (hl : ws.length ≤ 1000000) (hr : ∀ x ∈ ws, -9223372036854775808 ≤ x ∧ x ≤ 9223372036854775807) (hst : ws.length ≤ 64 → StableAt ws.length) (w : World) (hx : RowAt w a ws.length (numV ws)) :
    Calls Try.prog 15 #[.int .i64 total, .slice a ws.length cap] w (SplitEnd total ws w) := by
  obtain ⟨i0, hi, hz0, hz1, hz2⟩ := info_parts infoInt
  obtain ⟨j0, hj, hj0, hj1, hj2⟩ := info_parts infoCut
  have HX := Lib.hid hx
  have HR := Lib.hid hr
  have HST := Lib.hid hst
  obtain ⟨E, hE⟩ : ∃ E, splitE total ws = E := ⟨_, rfl⟩
  have HEND : Hid (SplitEnd total ws w = fun e w' => ∃ v, e = .returned (.tuple #[v, .int .i64 E]) ∧ Below w.heap.size w w' ∧ (E ≠ 0 → v = .slice none 0 0) ∧
    (E = 0 → ∃ d, SortedOf (cutsL total.natAbs ws.sum.natAbs ws ws.length).toArray d ∧ w'.ownsRow w.heap.size 3 1 v ws.length ((splitL total total.natAbs ws.sum.natAbs ws d ws.length).map (Value.int .i64)))) := by
    show _ = _
    rw [← hE]
    rfl
  unfold splitE at hE
  clear hx hr hst
  by_cases h1 : ws.length < 1 ∨ 64 < ws.length
  · rw [if_pos h1] at hE
    subst hE
    rcases h1 with h1 | h1
    · have g1 : (ws.length : Int) < 1 := by omega
      clear h1
      go_enter Try.func15, Try.ntmps15
      go_wp2_with fail
      go_step3
      go_wp2_with fail
      try rw [Exit.noGoto_ret]
      rw [HEND.out]
      go_ret2
      exact ⟨_, rfl, Below.refl _ _, fun _ => rfl, fun h => absurd h (by decide)⟩
    · have g1 : 64 < (ws.length : Int) := by omega
      have g2 : 1 ≤ (ws.length : Int) := by omega
      clear h1
      go_enter Try.func15, Try.ntmps15
      go_wp2_with fail
      go_step3
      go_wp2_with fail
      try rw [Exit.noGoto_ret]
      rw [HEND.out]
      go_ret2
      exact ⟨_, rfl, Below.refl _ _, fun _ => rfl, fun h => absurd h (by decide)⟩
  rw [if_neg h1] at hE
  have g1 : (ws.length : Int) ≤ 64 := by omega
  have g2 : 1 ≤ (ws.length : Int) := by omega
  have hn1 : 0 < ws.length := by omega
  have hn64 : ws.length ≤ 64 := by omega
  have hb1 : decide ((ws.length : Int) < 1) = false := decide_eq_false (by omega)
  have hb2 : decide ((64 : Int) < (ws.length : Int)) = false := decide_eq_false (by omega)
  have T1 := Lib.hid t1
  have T2 := Lib.hid t2
  clear t1 t2
  obtain ⟨b, o, rfl, hc⟩ := HX.out hn1
  have HC : Hid (∀ i, i < ws.length → w.cell? ⟨b, o + i, none⟩ = some (.int .i64 (ws.getD i 0))) := hc
  have HMI := Lib.hid (Try.slices_Min_int b o ws.length cap ws w hn1 (Nat.le_refl _) (by omega) HC.out)
  rw [List.take_length] at HMI
  have hmn := minOf_neg (zs := ws) (by intro e; rw [e] at hn1; simp at hn1)
  obtain ⟨mn, hm⟩ : ∃ m, Lib.minOf ws = m := ⟨_, rfl⟩
  rw [hm] at HMI hmn
  clear h1 hc hm
  by_cases h2 : ∃ z ∈ ws, z < 0
  · rw [if_pos h2] at hE
    subst hE
    have hm0 : mn < 0 := hmn.2 h2
    clear h2 hmn
    go_enter Try.func15, Try.ntmps15
    go_wp2_with fail
    go_step3
    go_wp2_with fail
    with_reducible refine HMI.out.mono ?_
    rintro e w1 ⟨rfl, rfl⟩
    go_wp2_with fail
    try rw [Exit.noGoto_ret]
    rw [HEND.out]
    go_ret2
    exact ⟨_, rfl, Below.refl _ _, fun _ => rfl, fun h => absurd h (by decide)⟩
  rw [if_neg h2] at hE
  have hm0 : 0 ≤ mn := by
    rcases Int.lt_or_le mn 0 with h | h
    · exact absurd (hmn.1 h) h2
    · exact h
  have HNN : Hid (∀ z ∈ ws, 0 ≤ z) := fun z hz => by
    rcases Int.lt_or_le z 0 with h | h
    · exact absurd ⟨z, hz, h⟩ h2
    · exact h
  clear h2 hmn
  by_cases h3 : fitsI ws.sum = false
  · rw [if_pos (Or.inl h3)] at hE
    subst hE
    have HSU := Lib.hid (sum_over (some ⟨b, o, none⟩) cap ws.length ws w rfl HX.out HR.out hl h3)
    clear h3
    go_enter Try.func15, Try.ntmps15
    go_wp2_with fail
    go_step3
    go_wp2_with fail
    with_reducible refine HMI.out.mono ?_
    rintro e w1 ⟨rfl, rfl⟩
    go_wp2_with fail
    with_reducible refine HSU.out.mono ?_
    rintro e w1 ⟨rfl, rfl⟩
    go_wp2_with fail
    try rw [Exit.noGoto_ret]
    rw [HEND.out]
    go_ret2
    exact ⟨_, rfl, Below.refl _ _, fun _ => rfl, fun h => absurd h (by decide)⟩
  have hsf : fitsI ws.sum = true := by simpa using h3
  by_cases h4 : total = -9223372036854775808
  · rw [if_pos (Or.inr h4)] at hE
    subst hE
    have HSU := Lib.hid (sum_fit (some ⟨b, o, none⟩) cap ws.length ws w rfl HX.out HR.out hl hsf)
    obtain ⟨S, hS⟩ : ∃ S, ws.sum = S := ⟨_, rfl⟩
    rw [hS] at HSU
    have h4b : (total == -9223372036854775808) = true := by simp [h4]
    clear h3 hsf h4 hS
    go_enter Try.func15, Try.ntmps15
    go_wp2_with fail
    go_step3
    go_wp2_with fail
    with_reducible refine HMI.out.mono ?_
    rintro e w1 ⟨rfl, rfl⟩
    go_wp2_with fail
    with_reducible refine HSU.out.mono ?_
    rintro e w1 ⟨rfl, rfl⟩
    go_wp2_with fail
    try rw [Exit.noGoto_ret]
    rw [HEND.out]
    go_ret2
    exact ⟨_, rfl, Below.refl _ _, fun _ => rfl, fun h => absurd h (by decide)⟩
  rw [if_neg (by rintro (h | h); exact h3 h; exact h4 h)] at hE
  have h4b : (total == -9223372036854775808) = false := by simp [h4]
  have hT63 : total.natAbs ≤ 9223372036854775807 := by have := T1.out; have := T2.out; omega
  have HSW := Lib.hid (sumW_all HNN.out)
  have HSU := Lib.hid (sum_fit (some ⟨b, o, none⟩) cap ws.length ws w rfl HX.out HR.out hl hsf)
  have HAB := Lib.hid (fun w => amtabs_ok total T1.out T2.out w)
  have hSS := fits_iff.1 hsf
  obtain ⟨S, hS⟩ : ∃ S, ws.sum.natAbs = S := ⟨_, rfl⟩
  have hS' : ws.sum = (S : Int) := by have := HSW.out; omega
  obtain ⟨T, hT⟩ : ∃ T, total.natAbs = T := ⟨_, rfl⟩
  rw [hS'] at HSU HSW hSS hE
  simp only [hT] at HAB
  rw [hT] at hT63
  rw [hS, hT] at HEND
  obtain ⟨hSS1, hSS2⟩ := hSS
  have HWN : Hid (sumW ws ws.length = S) := by show _ = _; have := HSW.out; omega
  clear h3 hsf h4 hS hS' HSW
  by_cases h5 : S = 0
  · rw [if_pos (by omega)] at hE
    subst hE
    have h5b : ((S : Int) == 0) = true := by simp [h5]
    clear h5
    go_enter Try.func15, Try.ntmps15
    go_wp2_with fail
    go_step3
    go_wp2_with fail
    with_reducible refine HMI.out.mono ?_
    rintro e w1 ⟨rfl, rfl⟩
    go_wp2_with fail
    with_reducible refine HSU.out.mono ?_
    rintro e w1 ⟨rfl, rfl⟩
    go_wp2_with fail
    try rw [Exit.noGoto_ret]
    rw [HEND.out]
    go_ret2
    exact ⟨_, rfl, Below.refl _ _, fun _ => rfl, fun h => absurd h (by decide)⟩
  rw [if_neg (by omega)] at hE
  subst hE
  have h5b : ((S : Int) == 0) = false := by simp [h5]
  have hS0 : 0 < S := by omega
  have HS0 := Lib.hid hS0
  have HTT := Lib.hid hT
  have HST' := Lib.hid (HST.out hn64)
  have HPA : Hid (∀ k, k < ws.length → ∀ w, Calls Try.prog 27 #[.int .u64 (T : Int), .int .u64 ((ws.getD k 0).toNat : Int), .int .u64 (S : Int)] w fun e w' => e = .returned (.tuple #[.int .u64 (qW T S ws k : Int), .int .u64 (rW T S ws k : Int), .bool true]) ∧ ∃ n, w' = w.drewN n) := fun k hk w => by
    have h1 := weight_le HWN.out hk
    refine parts_yes T (ws.getD k 0).toNat S (by omega) (by omega) (by omega) ?_ w
    refine (Nat.div_lt_iff_lt_mul (by decide)).2 ?_
    have h2 : T * (ws.getD k 0).toNat ≤ T * S := Nat.mul_le_mul_left _ h1
    have h3 : T * S < 18446744073709551616 * S := Nat.mul_lt_mul_of_pos_right (by omega) hS0
    rw [Nat.mul_comm S]
    omega
  have hwS : IntKind.u64.wrap (S : Int) = (S : Int) := IntWalk.u64_in _ (by omega)
  clear h5 hT HST hSS1
  go_enter Try.func15, Try.ntmps15
  go_wp2_with fail
  go_step3
  go_wp2_with fail
  with_reducible refine HMI.out.mono ?_
  rintro e w1 ⟨rfl, rfl⟩
  go_wp2_with fail
  with_reducible refine HSU.out.mono ?_
  rintro e w2 ⟨rfl, rfl⟩
  go_wp2_with fail
  with_reducible refine (HAB.out _).mono ?_
  rintro e w2 ⟨rfl, rfl⟩
  go_wp2_with fail
  clear h4b h5b HAB HMI HSU hm0 hb1 hb2 g2
  have HAB := Lib.hid (fun w => amtabs_ok total T1.out T2.out w)
  simp only [HTT.out] at HAB
  have HQT := Lib.hid (fun k hk => sumQ_T (T := T) (ws := ws) (k := k) HS0.out HWN.out hk)
  obtain ⟨n, hn⟩ : ∃ n, ws.length = n := ⟨_, rfl⟩
  have HN := Lib.hid hn
  rw [hn] at hl g1 hn1 hn64 HWN HX HC HST' HPA HEND HQT ⊢
  clear hn
  go_loopw [8, 9, 10, 49] (fun v8 v9 l i wr => ∃ k : Nat, k ≤ n ∧ i = .int .i64 (k : Int) ∧ l = .int .u64 ((T - sumQ T S ws k : Nat) : Int) ∧ Hid (wr.ownsRow w2.heap.size 3 1 v8 k ((baseL T S ws k).map (Value.int .i64))) ∧ Hid (wr.ownsRow w2.heap.size 63 2 v9 k (cutCells T S ws k)) ∧ Hid (RowKit.Below w2.heap.size w2 wr)) (fun _ _ _ i _ => n - (intOf i).toNat)
  case atStart => exact ⟨0, by omega, rfl, by simp [sumQ], (show w2.ownsRow _ _ _ _ _ _ from World.ownsRow_nil _ _ _ _), (show w2.ownsRow _ _ _ _ _ _ from World.ownsRow_nil _ _ _ _), (show RowKit.Below _ _ _ from RowKit.Below.refl _ _)⟩
  case round =>
    obtain ⟨k, hk, rfl, rfl, HO8, HO9, HBL⟩ := hrel
    by_cases hlt : k < n
    · have c0 : wr.cell? ⟨b, o + k, none⟩ = some (.int .i64 (ws.getD k 0)) := by
        have h := HX.out.after HBL.out
        obtain ⟨b', o', e, hc⟩ := h hn1
        cases e
        exact hc k hlt
      have hwk0 : 0 ≤ ws.getD k 0 := HNN.out _ (by rw [List.getD_eq_getElem?_getD, List.getElem?_eq_getElem (by have := HN.out; omega)]; exact List.getElem_mem _)
      have hwk1 := (HR.out (ws.getD k 0) (by rw [List.getD_eq_getElem?_getD, List.getElem?_eq_getElem (by have := HN.out; omega)]; exact List.getElem_mem _)).2
      have HP := Lib.hid (HPA.out k hlt)
      have hql := qW_le (T := T) HS0.out HWN.out hlt
      have hsq := sumQ_succ T S ws k
      have hrl : rW T S ws k < S := Nat.mod_lt _ HS0.out
      have HB1 := Lib.hid (baseL_succ T S ws k)
      have HB2 := Lib.hid (cutCells_succ T S ws k)
      obtain ⟨wk, hwk⟩ : ∃ x, ws.getD k 0 = x := ⟨_, rfl⟩
      rw [hwk] at c0 hwk0 hwk1 HP
      obtain ⟨wn, hwn⟩ : ∃ m : Nat, wk.toNat = m := ⟨_, rfl⟩
      obtain rfl : wk = (wn : Int) := by omega
      rw [hwn] at HP
      obtain ⟨q, hq⟩ : ∃ x, qW T S ws k = x := ⟨_, rfl⟩
      obtain ⟨r, hr⟩ : ∃ x, rW T S ws k = x := ⟨_, rfl⟩
      rw [hq, hr] at HP
      rw [hq] at hql hsq HB1
      rw [hr] at hrl HB2
      obtain ⟨L, hL⟩ : ∃ x, T - sumQ T S ws k = x := ⟨_, rfl⟩
      obtain ⟨L', hL'⟩ : ∃ x, T - sumQ T S ws (k + 1) = x := ⟨_, rfl⟩
      have HL' := Lib.hid hL'
      have fL : IntKind.u64.wrap ((L : Int) - (q : Int)) = (L' : Int) := by rw [IntKind.wrap_u64]; omega
      have fq : RowKit.wrap64 (q : Int) = (q : Int) := by unfold RowKit.wrap64; omega
      have fw : IntKind.u64.wrap (wn : Int) = (wn : Int) := IntWalk.u64_in _ (by omega)
      have hki : (k : Int) < (n : Int) := by omega
      rw [hL]
      have HLT := Lib.hid hlt
      have zr := HBL.out.size
      clear hwk hwn hq hr hL hL' hlt hql hsq hrl
      go_wp2_with fail
      with_reducible refine (HAB.out _).mono ?_
      rintro e w3 ⟨rfl, rfl⟩
      go_wp2_with fail
      with_reducible refine (HP.out _).mono ?_
      rintro e w4 ⟨rfl, dn, rfl⟩
      obtain ⟨wd, hwd⟩ : ∃ wd, w3.drewN dn = wd := ⟨_, rfl⟩
      have bd : RowKit.Below w3.heap.size w3 wd := by rw [← hwd]; exact below_draws _ _
      have HBD := Lib.hid (HBL.out.trans (bd.mono HBL.out.size))
      have O8 := Lib.hid (own_after HO8.out bd)
      have O9 := Lib.hid (own_after HO9.out bd)
      rw [hwd]
      have zd := HBD.out.size
      clear hwd bd c0
      have hne : (63 : Nat) ≠ 3 := by decide
      go_wp2_with (first
        | (at_builtin; refine wpList_append_own _ rfl _ _ 27 rfl w2.heap.size 3 i0 (.int .i64 0) 1 8 Try.underlying27 hi hz0 hz1 hz2 rfl (by decide) _ _ _ rfl (O8.out.alloc _) ⟨wd.heap.size, 0, none⟩ 1 1 [.int .i64 (q : Int)] rfl rfl (news_one _ _ _) (by simp [Value.oneCell']) (by unfold maxLen; omega) (by omega) (by simp; omega) ?_; intro v8' w4 hown8 hgrow8 _
           have HG8 : Hid (World.grownBy _ w4 u8.ownBlock) := hgrow8
           have O9' : Hid (w4.ownsRow w2.heap.size 63 2 u9 k (cutCells T S ws k)) := own_kept (O9.out.alloc _) (O8.out.alloc _) hne HG8.out
           have z4 := HG8.out.size
           clear hgrow8)
        | (at_builtin; refine wpList_append_own _ rfl _ _ 61 rfl w2.heap.size 63 j0 _ 2 16 Try.underlying61 hj hj0 hj1 hj2 rfl (by decide) _ _ (cutCells T S ws k) rfl (O9'.out.alloc _) ⟨w4.heap.size, 0, none⟩ 1 1 [.int .i64 (k : Int), .int .u64 (r : Int)] rfl rfl (World.news_of_block (cs := #[.int .i64 (k : Int), .int .u64 (r : Int)]) (t := 63) (fr := (0, 0)) (heap_alloc_new w4 _)) (by simp [Value.oneCell']) (by unfold maxLen; omega) (by omega) (by simp at z4 ⊢; omega) ?_; intro v9' w5 hown9 hgrow9 _
           have HG9 : Hid (World.grownBy _ w5 u9.ownBlock) := hgrow9
           clear hgrow9))
      have E8 : w5.ownsRow w2.heap.size 3 1 v8' (k + 1) ((baseL T S ws (k + 1)).map (Value.int .i64)) := by
        rw [HB1.out, List.map_append]
        exact own_kept (hown8.alloc _) (O9'.out.alloc _) hne.symm HG9.out
      have E9 : w5.ownsRow w2.heap.size 63 2 v9' (k + 1) (cutCells T S ws (k + 1)) := by
        rw [HB2.out]
        exact hown9
      have B4 : RowKit.Below w2.heap.size w2 w4 := (HBD.out.alloc zd _).grown HG8.out (by simp; omega) (fun q' e => by have := (O8.out.lt q' e).1; omega)
      have B5 : RowKit.Below w2.heap.size w2 w5 := (B4.alloc B4.size _).grown HG9.out (by have := B4.size; simp; omega) (fun q' e => by have := (O9'.out.lt q' e).1; omega)
      have hE8 := Lib.hid E8
      have hE9 := Lib.hid E9
      have hB5 := Lib.hid B5
      clear E8 E9 B4 B5 hown8 hown9 hne
      rw [← HL'.out]
      have hlt := HLT.out
      go_roundw
      case rel => exact ⟨k + 1, by omega, by go_num, rfl, hE8, hE9, hB5⟩
      case measure => simp [intOf]; omega
    · obtain rfl : n = k := by omega
      obtain ⟨g9, cap9, rfl, hb9, hl9, hH9⟩ := holds_cuts HO9.out hn1
      have HH9 := Lib.hid hH9
      clear hH9
      have HS9 := Lib.hid (HST'.out g9 cap9 (cutsL T S ws n).toArray wr (by simp [cutsL_len]) (cutsL_asc T S ws n) HH9.out hl9)
      obtain ⟨L, hL⟩ : ∃ x, T - sumQ T S ws n = x := ⟨_, rfl⟩
      rw [hL]
      have hLT : L ≤ 9223372036854775807 := by omega
      go_wp2_with fail
      with_reducible refine HS9.out.mono ?_
      rintro e w3 ⟨rfl, d, dm, dos, hsd, hw3⟩
      have hgr : World.grownBy wr w3 (some g9) := by rw [hw3]; exact grownBy_sortedK
      have hca : CutsAt w3 g9 d := by rw [hw3]; exact CutsAt.of (holdsK_sortWorldK_c encC 2 wr g9 0 _ d dm dos HH9.out hl9 hsd.size)
      obtain ⟨hds, hda⟩ := sorted_at hsd
      have HSD := Lib.hid hsd
      have HDA := Lib.hid hda
      have H8 : w3.ownsRow w2.heap.size 3 1 u8 n ((outG T S ws d 0 n).map (Value.int .i64)) := by
        rw [outG_zero]
        exact own_kept HO8.out HO9.out (by decide) hgr
      have B3 : RowKit.Below w2.heap.size w2 w3 := HBL.out.grown hgr HBL.out.size (fun q' e => by cases e; exact hb9)
      have hnn : g9 < w3.heap.size := Nat.lt_of_lt_of_le hl9 hgr.size
      obtain ⟨g8, cap8, rfl, hb8, hl8, hne8⟩ : ∃ g8 cap8, u8 = .slice (some ⟨g8, 0, none⟩) n cap8 ∧ w2.heap.size ≤ g8 ∧ g8 < w3.heap.size ∧ g8 ≠ g9 := by
        rcases HO8.out.2 with ⟨_, h0⟩ | ⟨g, c8, cur, e, hb, hh, _⟩
        · omega
        · refine ⟨g, c8, e, hb, Nat.lt_of_lt_of_le (Array.getElem?_eq_some_iff.1 hh).1 hgr.size, ?_⟩
          rintro rfl
          rcases HO9.out.2 with ⟨h1, _⟩ | ⟨g', c', cur', e', _, hh', _⟩
          · cases h1
          · simp only [Value.slice.injEq, Option.some.injEq, Addr.mk.injEq, and_true, true_and] at e'
            obtain ⟨rfl, _⟩ := e'
            rw [hh] at hh'
            simp at hh'
      clear HO8 HO9 HH9 HS9 hgr hw3 hsd hda HPA HST'
      have HCA := Lib.hid hca
      have HH8 := Lib.hid H8
      have HB3 := Lib.hid B3
      clear hca H8 B3
      go_wp2_with fail
      go_step3
      go_wp2_with fail
      go_loopw [84] (fun i wr' => ∃ k : Nat, k ≤ n ∧ k ≤ L ∧ i = .int .i64 (k : Int) ∧ Hid (wr'.ownsRow w2.heap.size 3 1 (.slice (some ⟨g8, 0, none⟩) n cap8) n ((outG T S ws d k n).map (Value.int .i64))) ∧ Hid (CutsAt wr' g9 d) ∧ Hid (RowKit.Below w2.heap.size w2 wr') ∧ g9 < wr'.heap.size ∧ g8 < wr'.heap.size) (fun i _ => n - (intOf i).toNat)
      case atStart => exact ⟨0, by omega, by omega, rfl, HH8, HCA, HB3, hnn, hl8⟩
      case round =>
        obtain ⟨k, hk, hkL, rfl, K8, K9, KB, kg9, kg8⟩ := hrel
        by_cases hlt : k < n
        · have hcut := K9.out k (by omega)
          obtain ⟨c0, c1⟩ := hcut
          obtain ⟨m0, m1, m2⟩ := HDA.out k hlt
          have M := Lib.hid (outG_step T S ws d k n (by omega) m0 m2)
          obtain ⟨x, hx⟩ : ∃ x, (d[k]!).1 = x := ⟨_, rfl⟩
          rw [hx] at c0 m0 m2 M
          have hg0 := outG_get T S ws d k n x m0
          rw [m2] at hg0
          have hq0 : qW T S ws x ≤ sumQ T S ws n := qW_one (n := n) n (Nat.le_refl _) x m0
          obtain ⟨q, hq⟩ : ∃ q, qW T S ws x = q := ⟨_, rfl⟩
          rw [hq] at hg0 hq0
          have hg1 : (outG T S ws d k n).getD x 0 = (q : Int) := by rw [hg0]; simp
          rw [hg1] at M
          have c8 : wr.cell? ⟨g8, x, none⟩ = some (.int .i64 (q : Int)) := by
            rw [K8.out.cellAt x (by omega), List.getElem?_map, List.getElem?_eq_getElem (by rw [outG_len]; exact m0), ← hg1]
            simp [List.getD_eq_getElem?_getD, outG_len, m0]
          have hkw : IntKind.u64.wrap (k : Int) = (k : Int) := IntWalk.u64_in _ (by omega)
          have hkn : (k : Int) < (n : Int) := by omega
          have hxn : (x : Int) < (n : Int) := by omega
          have hfz := K8.out.frozenAt x
          have HX8 := Lib.hid (K8.out.stored x (.int .i64 ((q : Int) + 1)))
          clear hg0 m2
          by_cases hkl : k = L
          · subst hkl
            clear c8 hfz HX8 M hq hg1 hx hq0 hxn hkw
            have hmin : min (T - sumQ T S ws n) n = k := by omega
            have R8 : ∀ o, Hid (World.ownsRow (wr.alloc o) w2.heap.size 3 1 (.slice (some ⟨g8, 0, none⟩) n cap8) n ((outG T S ws d (min (T - sumQ T S ws n) n) n).map (Value.int .i64))) := fun o => by
              rw [hmin]
              exact K8.out.alloc o
            have RB : ∀ o, Hid (RowKit.Below w2.heap.size w2 (wr.alloc o)) := fun o => KB.out.alloc KB.out.size o
            clear K8 K9 KB
            go_wp2_with fail
            obtain ⟨xs, hxs⟩ : ∃ xs, outG T S ws d (min (T - sumQ T S ws n) n) n = xs := ⟨_, rfl⟩
            have hxl : xs.length = n := by rw [← hxs, outG_len]
            have HIN : Hid (∀ i, i < n → 0 ≤ xs.getD i 0 ∧ xs.getD i 0 ≤ (T : Int) + 1) := by
              rw [← hxs]
              exact fun i hi => outG_in (HQT.out n (Nat.le_refl _)) i hi
            have HFIN : Hid (splitL total T S ws d n = negK total xs n) := by
              show _ = _
              unfold splitL
              rw [hxs, ← negK_full, hxl]
            rw [hxs] at R8
            clear hxs hmin
            go_loopw [103] (fun i wr' => ∃ j : Nat, j ≤ n ∧ i = .int .i64 (j : Int) ∧ Hid (wr'.ownsRow w2.heap.size 3 1 (.slice (some ⟨g8, 0, none⟩) n cap8) n ((negK total xs j).map (Value.int .i64))) ∧ Hid (RowKit.Below w2.heap.size w2 wr')) (fun i _ => n - (intOf i).toNat)
            case atStart => exact ⟨0, by omega, rfl, by rw [negK_zero]; first | exact R8 | exact R8 _, by first | exact RB | exact RB _⟩
            case round =>
              obtain ⟨j, hj, rfl, K8, KB⟩ := hrel
              by_cases hlt : j < n
              · have hcj : wr.cell? ⟨g8, j, none⟩ = some (.int .i64 (xs.getD j 0)) := by
                  rw [K8.out.cellAt j (by omega), List.getElem?_map, negK_get _ _ _ _ (by omega), if_neg (by omega)]
                  rfl
                obtain ⟨x, hx⟩ : ∃ x, xs.getD j 0 = x := ⟨_, rfl⟩
                rw [hx] at hcj
                obtain ⟨x0, x1⟩ := HIN.out j hlt
                rw [hx] at x0 x1
                have hjn : (j : Int) < (n : Int) := by omega
                by_cases ht : total < 0
                · have hneg : RowKit.wrap64 (-x) = -x := by unfold RowKit.wrap64; omega
                  have hfz := K8.out.frozenAt j
                  have e8 : (wr.setCell ⟨g8, j, none⟩ (.int .i64 (-x))).ownsRow w2.heap.size 3 1 (.slice (some ⟨g8, 0, none⟩) n cap8) n ((negK total xs (j + 1)).map (Value.int .i64)) := by
                    rw [← negK_down ht xs j (by omega), hx, List.map_set]
                    exact (K8.out.stored j _).1
                  have E8 := Lib.hid e8
                  have EB := Lib.hid (KB.out.setCell (p := ⟨g8, j, none⟩) hb8 (.int .i64 (-x)))
                  clear e8 hx x0 x1
                  go_wp2_with fail
                  go_roundw
                  case rel => exact ⟨j + 1, by omega, by go_num, E8, EB⟩
                  case measure => simp [intOf]; omega
                · have ht' : decide (total < 0) = false := decide_eq_false ht
                  have E8 : Hid (wr.ownsRow w2.heap.size 3 1 (.slice (some ⟨g8, 0, none⟩) n cap8) n ((negK total xs (j + 1)).map (Value.int .i64))) := by
                    rw [negK_up (by omega)]
                    exact K8
                  clear ht
                  go_wp2_with fail
                  go_roundw
                  case rel => exact ⟨j + 1, by omega, by go_num, E8, KB⟩
                  case measure => simp [intOf]; omega
              · obtain rfl : n = j := by omega
                go_wp2_with fail
                try rw [Exit.noGoto_ret]
                rw [HEND.out]
                go_ret2
                exact ⟨_, rfl, KB.out, fun h => absurd rfl h, fun _ => ⟨d, HSD.out, by rw [HFIN.out]; exact K8.out⟩⟩
          · have hkl' : ((k : Int) == (L : Int)) = false := by simp; omega
            have hq1 : RowKit.wrap64 ((q : Int) + 1) = (q : Int) + 1 := by unfold RowKit.wrap64; omega
            have HKL := Lib.hid hkl
            clear hkl
            go_wp2_with fail
            have e8 := HX8.out.1
            rw [← List.map_set, M.out] at e8
            have eb : RowKit.Below w2.heap.size w2 (wr.setCell ⟨g8, x, none⟩ (.int .i64 ((q : Int) + 1))) := KB.out.setCell (p := ⟨g8, x, none⟩) hb8 _
            have hkl := HKL.out
            refine ⟨⟨k + 1, by omega, by omega, by go_num, e8.alloc _, (K9.out.grown HX8.out.2 (by simpa using hne8)).grown (World.grownBy_alloc _ _ none) (by simp), eb.alloc eb.size _, by simp; omega, by simp; omega⟩, by simp [intOf]; omega⟩
        · obtain rfl : n = k := by omega
          have hmin : min (T - sumQ T S ws n) n = n := by omega
          have R8 : Hid (World.ownsRow wr w2.heap.size 3 1 (.slice (some ⟨g8, 0, none⟩) n cap8) n ((outG T S ws d (min (T - sumQ T S ws n) n) n).map (Value.int .i64))) := by
            rw [hmin]
            exact K8
          have RB := KB
          clear K8 K9 KB
          go_wp2_with fail
          obtain ⟨xs, hxs⟩ : ∃ xs, outG T S ws d (min (T - sumQ T S ws n) n) n = xs := ⟨_, rfl⟩
          have hxl : xs.length = n := by rw [← hxs, outG_len]
          have HIN : Hid (∀ i, i < n → 0 ≤ xs.getD i 0 ∧ xs.getD i 0 ≤ (T : Int) + 1) := by
            rw [← hxs]
            exact fun i hi => outG_in (HQT.out n (Nat.le_refl _)) i hi
          have HFIN : Hid (splitL total T S ws d n = negK total xs n) := by
            show _ = _
            unfold splitL
            rw [hxs, ← negK_full, hxl]
          rw [hxs] at R8
          clear hxs hmin
          go_loopw [103] (fun i wr' => ∃ j : Nat, j ≤ n ∧ i = .int .i64 (j : Int) ∧ Hid (wr'.ownsRow w2.heap.size 3 1 (.slice (some ⟨g8, 0, none⟩) n cap8) n ((negK total xs j).map (Value.int .i64))) ∧ Hid (RowKit.Below w2.heap.size w2 wr')) (fun i _ => n - (intOf i).toNat)
          case atStart => exact ⟨0, by omega, rfl, by rw [negK_zero]; first | exact R8 | exact R8 _, by first | exact RB | exact RB _⟩
          case round =>
            obtain ⟨j, hj, rfl, K8, KB⟩ := hrel
            by_cases hlt : j < n
            · have hcj : wr.cell? ⟨g8, j, none⟩ = some (.int .i64 (xs.getD j 0)) := by
                rw [K8.out.cellAt j (by omega), List.getElem?_map, negK_get _ _ _ _ (by omega), if_neg (by omega)]
                rfl
              obtain ⟨x, hx⟩ : ∃ x, xs.getD j 0 = x := ⟨_, rfl⟩
              rw [hx] at hcj
              obtain ⟨x0, x1⟩ := HIN.out j hlt
              rw [hx] at x0 x1
              have hjn : (j : Int) < (n : Int) := by omega
              by_cases ht : total < 0
              · have hneg : RowKit.wrap64 (-x) = -x := by unfold RowKit.wrap64; omega
                have hfz := K8.out.frozenAt j
                have e8 : (wr.setCell ⟨g8, j, none⟩ (.int .i64 (-x))).ownsRow w2.heap.size 3 1 (.slice (some ⟨g8, 0, none⟩) n cap8) n ((negK total xs (j + 1)).map (Value.int .i64)) := by
                  rw [← negK_down ht xs j (by omega), hx, List.map_set]
                  exact (K8.out.stored j _).1
                have E8 := Lib.hid e8
                have EB := Lib.hid (KB.out.setCell (p := ⟨g8, j, none⟩) hb8 (.int .i64 (-x)))
                clear e8 hx x0 x1
                go_wp2_with fail
                go_roundw
                case rel => exact ⟨j + 1, by omega, by go_num, E8, EB⟩
                case measure => simp [intOf]; omega
              · have ht' : decide (total < 0) = false := decide_eq_false ht
                have E8 : Hid (wr.ownsRow w2.heap.size 3 1 (.slice (some ⟨g8, 0, none⟩) n cap8) n ((negK total xs (j + 1)).map (Value.int .i64))) := by
                  rw [negK_up (by omega)]
                  exact K8
                clear ht
                go_wp2_with fail
                go_roundw
                case rel => exact ⟨j + 1, by omega, by go_num, E8, KB⟩
                case measure => simp [intOf]; omega
            · obtain rfl : n = j := by omega
              go_wp2_with fail
              try rw [Exit.noGoto_ret]
              rw [HEND.out]
              go_ret2
              exact ⟨_, rfl, KB.out, fun h => absurd rfl h, fun _ => ⟨d, HSD.out, by rw [HFIN.out]; exact K8.out⟩⟩

end Go.Proofs.Ytncodoaphfeefaa
