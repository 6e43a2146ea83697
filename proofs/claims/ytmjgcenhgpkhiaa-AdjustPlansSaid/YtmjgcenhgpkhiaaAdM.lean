/- The statement AdjustApart: the walk. -/
import Derived.Test.YtmjgcenhgpkhiaaAdL
namespace Go.Proofs.Ytmjgcenhgpkhiaa
open Go.RowKit Go.Sort Go.Shelf
set_option linter.unusedVariables false
set_option linter.unusedSimpArgs false

/-- Two rows of one's own, apart. -/
structure Rows2 (w : World) (base : Nat) (e : TypeId) (v u : Value) (F G : List Lv) : Prop where
  f : w.ownsRow base e 4 v F.length (cellsL encL F)
  g : w.ownsRow base e 4 u G.length (cellsL encL G)
  ne : ∀ b, v.ownBlock = some b → u.ownBlock ≠ some b
theorem Rows2.swap {w : World} {base : Nat} {e : TypeId} {v u : Value} {F G : List Lv} (h : Rows2 w base e v u F G) : Rows2 w base e u v G F := ⟨h.g, h.f, fun b e1 e2 => h.ne b e2 e1⟩
theorem Rows2.step {w w3 w' : World} {base : Nat} {e : TypeId} {v v' u : Value} {F G : List Lv} {x : Lv} (h : Rows2 w base e v u F G) (hb : Below w.heap.size w w3) (hown : w'.ownsRow base e 4 v' (F.length + 1) (cellsL encL F ++ encL x)) (hg : w3.grownBy w' v.ownBlock) (ha : v'.ownBlock = v.ownBlock ∨ v'.ownBlock = some w3.heap.size) : Rows2 w' base e v' u (F ++ [x]) G := by
  have hz := hb.size
  have hgl : ∀ b, u.ownBlock = some b → b < w.heap.size := fun b hb' => (own_cells h.g hb').2.1
  refine ⟨by rw [List.length_append, cellsL_snoc]; exact hown, own_kept (own_kept h.g (below_row hb none) (fun g _ e => by cases e)) hg (fun g hg' e => h.ne g e hg'), fun b hv' hu => ?_⟩
  rcases ha with ha | ha
  · rw [ha] at hv'
    exact h.ne b hv' hu
  · rw [ha] at hv'
    cases hv'
    have := hgl _ hu
    omega
theorem wp_append_recs {w : World} {o : Oper} {a : Act} {K : Act → World → Prop} {Q : Exit → Act → World → Prop} (s x : Operand)
    (ho : o.op = .call { callee := .builtin .append, args := #[s, x], argTypes := #[30, 30] }) (base k : Nat) {v : Value} (xs : List Cg) (hs : a.eval s = v) (hown : w.ownsRow base 51 5 v k (cellsL encG xs))
    (c : Option Addr) (L cap : Nat) (ys : List Cg) (hx : a.eval x = .slice c L cap) (hR : RecsAt w c 5 encG ys) (hL : L = ys.length) (hc : c = none → ys.length = 0 ∧ cap = 0) (hbase : base ≤ w.heap.size) (hb : k + L ≤ 1000000)
    (h : ∀ v' w', w'.ownsRow base 51 5 v' (k + L) (cellsL encG (xs ++ ys)) → Below base w w' → K (a.put o.dst v') w') : o.wp Try.prog a w K Q := by
  subst hL
  obtain ⟨i0, hi, hz0, hz1, hz2⟩ := info_parts infoCg
  cases c with
  | none =>
    obtain ⟨q4, rfl⟩ := hc rfl
    obtain rfl : ys = [] := List.length_eq_zero_iff.1 q4
    have hrun := run_append_owned_none (P := Try.prog) (w := w) base 30 o.type 51 i0 5 Try.underlying30 hi v k (cellsL encG xs) hown
    unfold Oper.wp
    rw [show (([] : List Cg).length) = 0 from rfl] at hx
    simp [execOp, ho, resolve, invoke, builtin, hs, hx, hrun, Result.andThen]
    refine h v w ?_ (Below.refl _ _)
    rw [List.append_nil]
    exact hown
  | some y =>
    refine wp_append_own w s x 30 ho base 51 i0 _ 5 40 Try.underlying30 hi hz0 hz1 hz2 rfl (by decide) v k (cellsL encG xs) hs hown y ys.length cap (cellsL encG ys) hx (cellsL_len (enc := encG) (size := 5) (fun _ => rfl) ys) (RecsAt.src hR (fun _ => rfl) rfl) (cellsL_one encG_one ys) (by unfold maxLen; omega) (by omega) hbase fun v' w' h1 h2 h3 => h v' w' (by rw [cellsL_append]; exact h1) ?_
    exact (Below.refl base w).grown h2 hbase (fun q e => (own_cells hown e).1)
theorem wpList_wanted {P : Program} {ops : Array Oper} {Q : Exit → Act → World → Prop} {a : Act} {w : World} {rest : List Oper} {o : Oper} (hw : Region.wanted o (yielded ops a.tmps) = true) (h : ∀ K : Act → World → Prop, (∀ a w, wpList P ops Q rest a w → K a w) → o.wp P a w K Q) : wpList P ops Q (o :: rest) a w := wpList_step fun K hK => by rw [if_pos hw]; exact h K hK
set_option maxHeartbeats 16000000 in
set_option maxRecDepth 100000 in
theorem apart_law (a : Option Addr) (cap : Nat) (l : List Lv) (a' : Option Addr) (cap' : Nat) (f : List Fl) (day : Int) (hl0 : l.length ≤ 9223372036854775807) (hf0 : f.length ≤ 9223372036854775807) (w : World) (h : SlG w 4 encL a cap l) (h' : SlG w 3 encW a' cap' f) (hwf : ∀ x ∈ l, Lv.Ok x) :
    Calls Try.prog 4 #[.slice a l.length cap, .slice a' f.length cap', .int .i64 day] w (TrueEnd w) := by
  obtain ⟨i0, hi, hz0, hz1, hz2⟩ := info_parts infoLv
  obtain ⟨j0, hj, hy0, hy1, hy2⟩ := info_parts infoCg
  have H := Lib.hid h
  have H' := Lib.hid h'
  have HWf := Lib.hid hwf
  have HB0 : Hid (Below w.heap.size w w) := Below.refl _ _
  clear h h' hwf
  go_enter Try.func4, Try.ntmps4
  by_cases h1 : 30 < l.length
  · have d1 : decide (30 < l.length) = true := decide_eq_true h1
    have d2 : decide ((30 : Int) < (l.length : Int)) = true := decide_eq_true (by omega)
    clear h1
    go_wp2_with fail
    with_reducible refine (awake_ok _).mono ?_
    rintro e w90 ⟨rfl, hb90⟩
    go_wp2_with fail
    go_ret
    exact ⟨rfl, HB0.out.trans (hb90.mono HB0.out.size)⟩
  have d1 : decide (30 < l.length) = false := decide_eq_false h1
  have d2 : decide ((30 : Int) < (l.length : Int)) = false := decide_eq_false (by omega)
  by_cases h2 : 30 < f.length
  · have d3 : decide (30 < f.length) = true := decide_eq_true h2
    have d4 : decide ((30 : Int) < (f.length : Int)) = true := decide_eq_true (by omega)
    clear h1 h2
    go_wp2_with fail
    with_reducible refine (awake_ok _).mono ?_
    rintro e w90 ⟨rfl, hb90⟩
    go_wp2_with fail
    go_ret
    exact ⟨rfl, HB0.out.trans (hb90.mono HB0.out.size)⟩
  have d3 : decide (30 < f.length) = false := decide_eq_false h2
  have d4 : decide ((30 : Int) < (f.length : Int)) = false := decide_eq_false (by omega)
  have hl : l.length ≤ 30 := by omega
  have hf : f.length ≤ 30 := by omega
  have HC1 := Lib.hid (plan_ok a cap l a' cap' f w H.out H'.out (by omega) (by omega) HWf.out)
  clear h1 h2
  go_wp2_with fail
  with_reducible refine HC1.out.mono ?_
  rintro e w1 ⟨a1, c1, p, rfl, hs1, hp1, hn1, hb1, _, _⟩
  have HB1 := Lib.hid hb1
  clear d1 d2 d3 d4 HC1
  by_cases hE : planE l f ≠ 0
  · obtain rfl := hn1 hE
    have d5 : (planE l f == 0) = false := by rw [beq_eq_false_iff_ne]; exact hE
    obtain ⟨E, hEE⟩ : ∃ E, planE l f = E := ⟨_, rfl⟩
    rw [hEE] at d5 ⊢
    clear hp1 hn1 hE hEE hs1 hb1
    go_wp2_with fail
    with_reducible refine (awake_ok _).mono ?_
    rintro e w90 ⟨rfl, hb90⟩
    go_wp2_with fail
    go_ret
    exact ⟨rfl, HB1.out.trans (hb90.mono HB1.out.size)⟩
  replace hE : planE l f = 0 := Decidable.of_not_not hE
  have HPlan := Lib.hid (hp1 hE)
  have HS1 := Lib.hid hs1
  have hck : ckE l = 0 := by
    unfold planE at hE
    by_cases hc : ckE l = 0
    · exact hc
    · rw [if_neg hc] at hE; exact hE
  have hob : ordB f = true := by
    unfold planE at hE
    rw [if_pos hck] at hE
    unfold ordE at hE
    split at hE
    · assumption
    · cases hE
  have HCk := Lib.hid hck
  have HOb := Lib.hid hob
  rw [hE]
  clear hp1 hn1 hE hck hob hs1 hb1
  have z1 := HB1.out.size
  go_wp2_with fail
  go_loopw [9, 10, 11] (fun v u i wr => ∃ j : Nat, j ≤ l.length ∧ i = .int .i64 j ∧ Hid (Rows2 wr w1.heap.size 42 v u ((l.take j).filter fun x => decide (x.d ≤ day)) ((l.take j).filter fun x => !decide (x.d ≤ day))) ∧ Hid (Below w1.heap.size w1 wr)) (fun _ _ i _ => l.length - (intOf i).toNat)
  case atStart => exact ⟨0, by omega, rfl, ⟨World.ownsRow_nil _ _ _ _, World.ownsRow_nil _ _ _ _, fun b e => by cases e⟩, Below.refl _ _⟩
  case round =>
    obtain ⟨j, hj, rfl, HR2, HBq⟩ := hrel
    by_cases hlt : j < l.length
    · have hx := List.getElem?_eq_getElem hlt
      obtain ⟨x, hy⟩ : ∃ x, l[j] = x := ⟨_, rfl⟩
      rw [hy] at hx
      have hTk : l.take (j + 1) = l.take j ++ [x] := by rw [List.take_succ_eq_append_getElem hlt, hy]
      have hS := H.out.after (HB1.out.trans (HBq.out.mono z1))
      rcases hS.sh with rfl | ⟨b, o, rfl, hbl⟩
      · exact absurd hlt (by simp)
      obtain ⟨xn, xd, xc, xa⟩ := x
      have p0 : wr.cell? ⟨b, o + j * 4, none⟩ = some (.int .i64 xn) := RecsAt.cell hS.recs rfl hlt hx (j := 0) rfl
      have p1 : wr.cell? ⟨b, o + j * 4 + 1, none⟩ = some (.int .i64 xd) := RecsAt.cell hS.recs rfl hlt hx (j := 1) rfl
      have p2 : wr.cell? ⟨b, o + j * 4 + 2, none⟩ = some (.int .i64 xc) := RecsAt.cell hS.recs rfl hlt hx (j := 2) rfl
      have p3 : wr.cell? ⟨b, o + j * 4 + 3, none⟩ = some (.int .i64 xa) := RecsAt.cell hS.recs rfl hlt hx (j := 3) rfl
      have i1 : (0 : Int) ≤ (j : Int) := by omega
      have i2 : (j : Int) < (l.length : Int) := by omega
      have hF1 : ((l.take j).filter fun x => decide (x.d ≤ day)).length ≤ 30 := Nat.le_trans (List.length_filter_le _ _) (by rw [List.length_take]; omega)
      have hG1 : ((l.take j).filter fun x => !decide (x.d ≤ day)).length ≤ 30 := Nat.le_trans (List.length_filter_le _ _) (by rw [List.length_take]; omega)
      have zq := HBq.out.size
      by_cases hd : xd ≤ day
      · have e1 : decide (xd ≤ day) = true := decide_eq_true hd
        have HT1 : Hid ((l.take (j + 1)).filter (fun x => decide (x.d ≤ day)) = (l.take j).filter (fun x => decide (x.d ≤ day)) ++ [⟨xn, xd, xc, xa⟩]) := by show _ = _; rw [hTk, List.filter_append]; simp [hd]
        have HT2 : Hid ((l.take (j + 1)).filter (fun x => !decide (x.d ≤ day)) = (l.take j).filter (fun x => !decide (x.d ≤ day))) := by show _ = _; rw [hTk, List.filter_append]; simp [hd]
        obtain ⟨F, hF⟩ : ∃ F, (l.take j).filter (fun x => decide (x.d ≤ day)) = F := ⟨_, rfl⟩
        obtain ⟨G, hG⟩ : ∃ G, (l.take j).filter (fun x => !decide (x.d ≤ day)) = G := ⟨_, rfl⟩
        rw [hF] at HR2 HT1 hF1
        rw [hG] at HR2 HT2 hG1
        clear hx hy hTk hS hF hG hd
        obtain ⟨w3, hw3⟩ : ∃ W, wr.alloc (.cells #[.int .i64 xn, .int .i64 xd, .int .i64 xc, .int .i64 xa] 42) = W := ⟨_, rfl⟩
        have hb3 : Below wr.heap.size wr w3 := by rw [← hw3]; exact (Below.refl _ _).alloc (Nat.le_refl _) _
        have HB3 := Lib.hid hb3
        have HW3 := Lib.hid hw3
        have HO3 : Hid (∀ o, (wr.alloc o).ownsRow w1.heap.size 42 4 u9 (F).length (cellsL encL (F))) := fun o => HR2.out.f.alloc o
        clear hw3 hb3
        go_wp2_with (at_builtin; refine wpList_append_own_at _ rfl (.tmp 53) (.tmp 58) 22 rfl w1.heap.size 42 i0 _ 4 32 Try.underlying22 hi hz0 hz1 hz2 rfl (by decide) u9 (F).length _ rfl (HO3.out _) ⟨wr.heap.size, 0, none⟩ 1 1 [.int .i64 xn, .int .i64 xd, .int .i64 xc, .int .i64 xa] rfl rfl (World.news_of_block (cs := #[.int .i64 xn, .int .i64 xd, .int .i64 xc, .int .i64 xa]) (t := 42) (fr := (0, 0)) (heap_alloc_new wr _)) (by simp [Value.oneCell']) (by unfold maxLen; omega) (by omega) (by simp; omega) ?_; intro v' w7 hown' hgrow hnil hat)
        have HN : Hid (Rows2 w7 w1.heap.size 42 v' u10 ((l.take (j + 1)).filter fun x => decide (x.d ≤ day)) ((l.take (j + 1)).filter fun x => !decide (x.d ≤ day))) := by
          show Rows2 _ _ _ _ _ _ _
          rw [HT1.out, HT2.out]
          exact HR2.out.step ((Below.refl _ _).alloc (Nat.le_refl _) _) hown' hgrow hat
        have HB7 : Hid (Below w1.heap.size w1 w7) := (HBq.out.trans (HB3.out.mono zq)).grown (by rw [← HW3.out]; exact hgrow) (by have := HB3.out.size; omega) (fun k e => (own_cells HR2.out.f e).1)
        clear hown' hgrow hnil hat
        go_roundw
        case rel => exact ⟨j + 1, by omega, by go_num, HN.out, HB7.out⟩
        case measure => simp [intOf]; omega
      · have e1 : decide (xd ≤ day) = false := decide_eq_false hd
        have HT1 : Hid ((l.take (j + 1)).filter (fun x => decide (x.d ≤ day)) = (l.take j).filter (fun x => decide (x.d ≤ day))) := by show _ = _; rw [hTk, List.filter_append]; simp [hd]
        have HT2 : Hid ((l.take (j + 1)).filter (fun x => !decide (x.d ≤ day)) = (l.take j).filter (fun x => !decide (x.d ≤ day)) ++ [⟨xn, xd, xc, xa⟩]) := by show _ = _; rw [hTk, List.filter_append]; simp [hd]
        obtain ⟨F, hF⟩ : ∃ F, (l.take j).filter (fun x => decide (x.d ≤ day)) = F := ⟨_, rfl⟩
        obtain ⟨G, hG⟩ : ∃ G, (l.take j).filter (fun x => !decide (x.d ≤ day)) = G := ⟨_, rfl⟩
        rw [hF] at HR2 HT1 hF1
        rw [hG] at HR2 HT2 hG1
        clear hx hy hTk hS hF hG hd
        obtain ⟨w3, hw3⟩ : ∃ W, wr.alloc (.cells #[.int .i64 xn, .int .i64 xd, .int .i64 xc, .int .i64 xa] 42) = W := ⟨_, rfl⟩
        have hb3 : Below wr.heap.size wr w3 := by rw [← hw3]; exact (Below.refl _ _).alloc (Nat.le_refl _) _
        have HB3 := Lib.hid hb3
        have HW3 := Lib.hid hw3
        have HO3 : Hid (∀ o, (wr.alloc o).ownsRow w1.heap.size 42 4 u10 (G).length (cellsL encL (G))) := fun o => HR2.out.g.alloc o
        clear hw3 hb3
        go_wp2_with (at_builtin; refine wpList_append_own_at _ rfl (.tmp 60) (.tmp 65) 22 rfl w1.heap.size 42 i0 _ 4 32 Try.underlying22 hi hz0 hz1 hz2 rfl (by decide) u10 (G).length _ rfl (HO3.out _) ⟨wr.heap.size, 0, none⟩ 1 1 [.int .i64 xn, .int .i64 xd, .int .i64 xc, .int .i64 xa] rfl rfl (World.news_of_block (cs := #[.int .i64 xn, .int .i64 xd, .int .i64 xc, .int .i64 xa]) (t := 42) (fr := (0, 0)) (heap_alloc_new wr _)) (by simp [Value.oneCell']) (by unfold maxLen; omega) (by omega) (by simp; omega) ?_; intro v' w7 hown' hgrow hnil hat)
        have HN : Hid (Rows2 w7 w1.heap.size 42 u9 v' ((l.take (j + 1)).filter fun x => decide (x.d ≤ day)) ((l.take (j + 1)).filter fun x => !decide (x.d ≤ day))) := by
          show Rows2 _ _ _ _ _ _ _
          rw [HT1.out, HT2.out]
          exact (HR2.out.swap.step ((Below.refl _ _).alloc (Nat.le_refl _) _) hown' hgrow hat).swap
        have HB7 : Hid (Below w1.heap.size w1 w7) := (HBq.out.trans (HB3.out.mono zq)).grown (by rw [← HW3.out]; exact hgrow) (by have := HB3.out.size; omega) (fun k e => (own_cells HR2.out.g e).1)
        clear hown' hgrow hnil hat
        go_roundw
        case rel => exact ⟨j + 1, by omega, by go_num, HN.out, HB7.out⟩
        case measure => simp [intOf]; omega
    · obtain rfl : j = l.length := by omega
      have hR2 := HR2.out
      rw [List.take_length] at hR2
      obtain ⟨a9, c9, rfl, hs9, _⟩ := sl_own (enc := encL) (fun _ => rfl) hR2.f
      obtain ⟨a10, c10, rfl, hs10, _⟩ := sl_own (enc := encL) (fun _ => rfl) hR2.g
      obtain ⟨wA, hwA⟩ : ∃ W, W = wr := ⟨_, rfl⟩
      subst hwA
      have HBA : Hid (Below w.heap.size w wA) := HB1.out.trans (HBq.out.mono z1)
      have HS9 := Lib.hid hs9
      have HS10 := Lib.hid hs10
      have HfA := Lib.hid (H'.out.after HBA.out)
      have HPl1 := Lib.hid (HS1.out.after HBq.out)
      have hn9 : (l.filter fun x => decide (x.d ≤ day)).length ≤ 30 := Nat.le_trans (List.length_filter_le _ _) hl
      have hn10 : (l.filter fun x => !decide (x.d ≤ day)).length ≤ 30 := Nat.le_trans (List.length_filter_le _ _) hl
      clear hR2 HR2 hs9 hs10
      go_wp2_with fail
      go_loopw [12] (fun i wr => ∃ n : Nat, n ≤ f.length ∧ i = .int .i64 n ∧ Hid ((∀ i, i < n → ∀ x, f[i]? = some x → x.d ≤ day) ∧ wA = wr)) (fun i _ => f.length - (intOf i).toNat)
      case atStart => exact ⟨0, by omega, rfl, fun i hi => absurd hi (by omega), rfl⟩
      case round =>
        obtain ⟨n, hn, rfl, HQ⟩ := hrel
        obtain rfl := HQ.out.2
        have i1 : (0 : Int) ≤ (n : Int) := by omega
        by_cases hlt : n < f.length
        · have hx := List.getElem?_eq_getElem hlt
          obtain ⟨x, hy⟩ : ∃ x, f[n] = x := ⟨_, rfl⟩
          rw [hy] at hx
          rcases HfA.out.sh with rfl | ⟨b, o, rfl, hbl⟩
          · exact absurd hlt (by simp)
          obtain ⟨xd, xc, xa⟩ := x
          have p0 : wA.cell? ⟨b, o + n * 3, none⟩ = some (.int .i64 xd) := RecsAt.cell HfA.out.recs rfl hlt hx (j := 0) rfl
          have i2 : (n : Int) < (f.length : Int) := by omega
          by_cases hd : xd ≤ day
          · have e1 : decide (xd ≤ day) = true := decide_eq_true hd
            have HN : Hid ((∀ i, i < n + 1 → ∀ x, f[i]? = some x → x.d ≤ day) ∧ True) := ⟨fun i hi x hxi => by
              rcases Nat.lt_or_ge i n with h | h
              · exact HQ.out.1 i h x hxi
              · obtain rfl : i = n := by omega
                rw [hx] at hxi
                cases hxi
                exact hd, trivial⟩
            clear hx hy hd HQ
            go_wp2_with fail
            go_roundw
            case rel => exact ⟨n + 1, by omega, by go_num, HN⟩
            case measure => simp [intOf]; omega
          · have e1 : decide (xd ≤ day) = false := decide_eq_false hd
            have HDays := Lib.hid (take_days (ordB_ok HOb.out).2 day n hn HQ.out.1 (fun y hy' => by rw [hx] at hy'; cases hy'; show day < xd; omega))
            have hcp := HfA.out.le
            have HW1 : Hid (SlG wA 3 encW (some ⟨b, o, none⟩) cap' (f.take n)) := ⟨RecsAt.takeR HfA.out.recs n, by rw [List.length_take]; omega, HfA.out.max, fun e => (by cases e), .inr ⟨b, o, rfl, hbl⟩⟩
            have HW2 : Hid (SlG wA 3 encW (some ⟨b, o + n * 3, none⟩) (cap' - n) (f.drop n)) := ⟨RecsAt.dropR HfA.out.recs n, by rw [List.length_drop]; omega, by have := HfA.out.max; omega, fun e => (by cases e), .inr ⟨b, o + n * 3, rfl, hbl⟩⟩
            have hcx := HfA.out.max
            unfold maxLen at hcx
            clear hx hy hd HQ
            have hl1 : ((f).take (n)).length = n := by first | (rw [List.length_take]; omega) | simp
            have hl2 : ((f).drop (n)).length = f.length - n := by first | (simp; done) | (rw [List.length_drop]; done) | (rw [List.length_drop]; omega)
            have HE1 : Hid (planE (l.filter fun x => decide (x.d ≤ day)) ((f).take (n)) = 0) := by
              show _ = _
              unfold planE ordE
              rw [if_pos (ckE_part HCk.out _), if_pos (ordB_take HOb.out (n))]
            have HE2 : Hid (planE (l.filter fun x => !decide (x.d ≤ day)) ((f).drop (n)) = 0) := by
              show _ = _
              unfold planE ordE
              rw [if_pos (ckE_part HCk.out _), if_pos (ordB_drop HOb.out (n))]
            have HCa : Hid (Calls Try.prog 11 #[.slice a9 (l.filter fun x => decide (x.d ≤ day)).length c9, .slice (some ⟨b, o, none⟩) (n) (cap')] wA (PlanEnd wA (l.filter fun x => decide (x.d ≤ day)) ((f).take (n)))) := by
              have h := plan_ok a9 c9 (l.filter fun x => decide (x.d ≤ day)) (some ⟨b, o, none⟩) (cap') ((f).take (n)) wA HS9.out.g HW1.out (by omega) (by omega) (fun x hx => HWf.out x (List.mem_filter.1 hx).1)
              rw [hl1] at h
              exact h
            have HCb : Hid (∀ W, Below wA.heap.size wA W → Calls Try.prog 11 #[.slice a10 (l.filter fun x => !decide (x.d ≤ day)).length c10, .slice (some ⟨b, o + n * 3, none⟩) (f.length - n) (cap' - n)] W (PlanEnd W (l.filter fun x => !decide (x.d ≤ day)) ((f).drop (n)))) := fun W hW => by
              have h := plan_ok a10 c10 (l.filter fun x => !decide (x.d ≤ day)) (some ⟨b, o + n * 3, none⟩) (cap' - n) ((f).drop (n)) W (HS10.out.after hW).g (HW2.out.after hW) (by omega) (by omega) (fun x hx => HWf.out x (List.mem_filter.1 hx).1)
              rw [hl2] at h
              exact h
            clear hl1 hl2
            go_wp2_with fail
            with_reducible refine HCa.out.mono ?_
            rintro e w20 ⟨aa, ca, pa, rfl, hsa, hpa, _, hba, _, hoa⟩
            rw [HE1.out]
            have zA := HBA.out.size
            have HPa := Lib.hid (hpa HE1.out)
            have HBa := Lib.hid hba
            have HOa := Lib.hid hoa
            have HCb2 := Lib.hid (HCb.out w20 hba)
            clear hsa hpa hba hoa HCa HCb
            go_wp2_with fail
            with_reducible refine HCb2.out.mono ?_
            rintro e w21 ⟨ab, cb, pb, rfl, hsb, hpb, _, hbb, _, _⟩
            rw [HE2.out]
            have hpp : pa ++ pb = p := (plan_parts (ordB_ok HOb.out).2 HDays.out.1 HDays.out.2 HPa.out (hpb HE2.out)).one HPlan.out
            have hlp := plan_len HPlan.out
            subst hpp
            have HOa2 : Hid (w21.ownsRow wA.heap.size 51 5 (.slice aa pa.length ca) pa.length (cellsL encG pa)) := own_kept HOa.out (below_row hbb none) (fun g _ e => by cases e)
            have HSb := Lib.hid hsb
            have HB21 : Hid (Below wA.heap.size wA w21) := HBa.out.trans (hbb.mono HBa.out.size)
            have HP21 : Hid (SlAt w21 5 encG a1 c1 (pa ++ pb)) := HPl1.out.after HB21.out
            have z21 := HB21.out.size
            have hlab : pa.length + pb.length ≤ 60 := by rw [List.length_append] at hlp; omega
            clear hsb hpb hbb HCb2 HPa HOa HPlan hlp
            go_wp2_with (at_builtin; refine wpList_wanted (by rfl) (fun K hK => wp_append_recs (.tmp 105) (.tmp 106) rfl wA.heap.size pa.length pa rfl HOa2.out ab pb.length cb pb rfl HSb.out.recs rfl (fun e => by have := HSb.out.g.no e; exact ⟨by rw [this.1]; rfl, this.2⟩) z21 (by omega) (fun v' w22 hown' hb22 => hK _ _ ?_)); rw [← List.length_append] at hown'; obtain ⟨av, cv, rfl, hsv, hxv⟩ := sl_own (enc := encG) (fun _ => rfl) hown'; have HB22 := Lib.hid (HB21.out.trans hb22); have hcs := same_ok av a1 cv c1 (pa ++ pb) w22 hsv.recs (HPl1.out.after (HB21.out.trans hb22)).recs (by rw [List.length_append]; omega); rw [List.length_append] at hcs; have HCs := Lib.hid hcs; clear hown' hsv hxv hb22 hcs)
            with_reducible refine HCs.out.mono ?_
            rintro e w23 ⟨rfl, hb23⟩
            have HB23 := Lib.hid (HBA.out.trans ((HB22.out.trans (hb23.mono HB22.out.size)).mono zA))
            clear hb23 HCs
            go_wp2_with fail
            with_reducible refine (awake_ok _).mono ?_
            rintro e w90 ⟨rfl, hb90⟩
            go_wp2_with fail
            go_ret
            exact ⟨rfl, HB23.out.trans (hb90.mono HB23.out.size)⟩
        · obtain rfl : n = f.length := by omega
          have e1 : decide ((f.length : Int) < (f.length : Int)) = false := decide_eq_false (by omega)
          have HDays : Hid ((∀ x ∈ f.take f.length, x.d ≤ day) ∧ ∀ x ∈ f.drop f.length, day < x.d) := take_days (ordB_ok HOb.out).2 day f.length (Nat.le_refl _) HQ.out.1 (fun y hy' => by rw [List.getElem?_eq_none (Nat.le_refl _)] at hy'; cases hy')
          have hcp := HfA.out.le
          have hcx := HfA.out.max
          unfold maxLen at hcx
          clear HQ
          rcases HfA.out.sh with rfl | ⟨b, o, rfl, hbl⟩
          · cases a' with
            | none =>
              obtain ⟨_, rfl⟩ := HfA.out.no rfl
              have HW1 : Hid (SlG wA 3 encW none 0 (([] : List Fl).take 0)) := ⟨RowsAt.nil _ _ _ _, Nat.le_refl _, Nat.zero_le _, fun _ => ⟨rfl, rfl⟩, .inl rfl⟩
              have HW2 : Hid (SlG wA 3 encW none 0 (([] : List Fl).drop 0)) := ⟨RowsAt.nil _ _ _ _, Nat.le_refl _, Nat.zero_le _, fun _ => ⟨rfl, rfl⟩, .inl rfl⟩
              have hl1 : ((([] : List Fl)).take (0)).length = 0 := by first | (rw [List.length_take]; omega) | simp
              have hl2 : ((([] : List Fl)).drop (0)).length = 0 := by first | (simp; done) | (rw [List.length_drop]; done) | (rw [List.length_drop]; omega)
              have HE1 : Hid (planE (l.filter fun x => decide (x.d ≤ day)) ((([] : List Fl)).take (0)) = 0) := by
                show _ = _
                unfold planE ordE
                rw [if_pos (ckE_part HCk.out _), if_pos (ordB_take HOb.out (0))]
              have HE2 : Hid (planE (l.filter fun x => !decide (x.d ≤ day)) ((([] : List Fl)).drop (0)) = 0) := by
                show _ = _
                unfold planE ordE
                rw [if_pos (ckE_part HCk.out _), if_pos (ordB_drop HOb.out (0))]
              have HCa : Hid (Calls Try.prog 11 #[.slice a9 (l.filter fun x => decide (x.d ≤ day)).length c9, .slice (none) (0) (0)] wA (PlanEnd wA (l.filter fun x => decide (x.d ≤ day)) ((([] : List Fl)).take (0)))) := by
                have h := plan_ok a9 c9 (l.filter fun x => decide (x.d ≤ day)) (none) (0) ((([] : List Fl)).take (0)) wA HS9.out.g HW1.out (by omega) (by omega) (fun x hx => HWf.out x (List.mem_filter.1 hx).1)
                rw [hl1] at h
                exact h
              have HCb : Hid (∀ W, Below wA.heap.size wA W → Calls Try.prog 11 #[.slice a10 (l.filter fun x => !decide (x.d ≤ day)).length c10, .slice (none) (0) (0)] W (PlanEnd W (l.filter fun x => !decide (x.d ≤ day)) ((([] : List Fl)).drop (0)))) := fun W hW => by
                have h := plan_ok a10 c10 (l.filter fun x => !decide (x.d ≤ day)) (none) (0) ((([] : List Fl)).drop (0)) W (HS10.out.after hW).g (HW2.out.after hW) (by omega) (by omega) (fun x hx => HWf.out x (List.mem_filter.1 hx).1)
                rw [hl2] at h
                exact h
              clear hl1 hl2
              go_wp2_with fail
              with_reducible refine HCa.out.mono ?_
              rintro e w20 ⟨aa, ca, pa, rfl, hsa, hpa, _, hba, _, hoa⟩
              rw [HE1.out]
              have zA := HBA.out.size
              have HPa := Lib.hid (hpa HE1.out)
              have HBa := Lib.hid hba
              have HOa := Lib.hid hoa
              have HCb2 := Lib.hid (HCb.out w20 hba)
              clear hsa hpa hba hoa HCa HCb
              go_wp2_with fail
              with_reducible refine HCb2.out.mono ?_
              rintro e w21 ⟨ab, cb, pb, rfl, hsb, hpb, _, hbb, _, _⟩
              rw [HE2.out]
              have hpp : pa ++ pb = p := (plan_parts (ordB_ok HOb.out).2 HDays.out.1 HDays.out.2 HPa.out (hpb HE2.out)).one HPlan.out
              have hlp := plan_len HPlan.out
              subst hpp
              have HOa2 : Hid (w21.ownsRow wA.heap.size 51 5 (.slice aa pa.length ca) pa.length (cellsL encG pa)) := own_kept HOa.out (below_row hbb none) (fun g _ e => by cases e)
              have HSb := Lib.hid hsb
              have HB21 : Hid (Below wA.heap.size wA w21) := HBa.out.trans (hbb.mono HBa.out.size)
              have HP21 : Hid (SlAt w21 5 encG a1 c1 (pa ++ pb)) := HPl1.out.after HB21.out
              have z21 := HB21.out.size
              have hlab : pa.length + pb.length ≤ 60 := by rw [List.length_append] at hlp; omega
              clear hsb hpb hbb HCb2 HPa HOa HPlan hlp
              go_wp2_with (at_builtin; refine wpList_wanted (by rfl) (fun K hK => wp_append_recs (.tmp 105) (.tmp 106) rfl wA.heap.size pa.length pa rfl HOa2.out ab pb.length cb pb rfl HSb.out.recs rfl (fun e => by have := HSb.out.g.no e; exact ⟨by rw [this.1]; rfl, this.2⟩) z21 (by omega) (fun v' w22 hown' hb22 => hK _ _ ?_)); rw [← List.length_append] at hown'; obtain ⟨av, cv, rfl, hsv, hxv⟩ := sl_own (enc := encG) (fun _ => rfl) hown'; have HB22 := Lib.hid (HB21.out.trans hb22); have hcs := same_ok av a1 cv c1 (pa ++ pb) w22 hsv.recs (HPl1.out.after (HB21.out.trans hb22)).recs (by rw [List.length_append]; omega); rw [List.length_append] at hcs; have HCs := Lib.hid hcs; clear hown' hsv hxv hb22 hcs)
              with_reducible refine HCs.out.mono ?_
              rintro e w23 ⟨rfl, hb23⟩
              have HB23 := Lib.hid (HBA.out.trans ((HB22.out.trans (hb23.mono HB22.out.size)).mono zA))
              clear hb23 HCs
              go_wp2_with fail
              with_reducible refine (awake_ok _).mono ?_
              rintro e w90 ⟨rfl, hb90⟩
              go_wp2_with fail
              go_ret
              exact ⟨rfl, HB23.out.trans (hb90.mono HB23.out.size)⟩
            | some y =>
              have HW1 : Hid (SlG wA 3 encW (some y) cap' (([] : List Fl).take 0)) := ⟨RowsAt.nil _ _ _ _, Nat.zero_le _, HfA.out.max, fun e => (by cases e), .inl rfl⟩
              have HW2 : Hid (SlG wA 3 encW (some y) cap' (([] : List Fl).drop 0)) := ⟨RowsAt.nil _ _ _ _, Nat.zero_le _, HfA.out.max, fun e => (by cases e), .inl rfl⟩
              have hl1 : ((([] : List Fl)).take (0)).length = 0 := by first | (rw [List.length_take]; omega) | simp
              have hl2 : ((([] : List Fl)).drop (0)).length = 0 := by first | (simp; done) | (rw [List.length_drop]; done) | (rw [List.length_drop]; omega)
              have HE1 : Hid (planE (l.filter fun x => decide (x.d ≤ day)) ((([] : List Fl)).take (0)) = 0) := by
                show _ = _
                unfold planE ordE
                rw [if_pos (ckE_part HCk.out _), if_pos (ordB_take HOb.out (0))]
              have HE2 : Hid (planE (l.filter fun x => !decide (x.d ≤ day)) ((([] : List Fl)).drop (0)) = 0) := by
                show _ = _
                unfold planE ordE
                rw [if_pos (ckE_part HCk.out _), if_pos (ordB_drop HOb.out (0))]
              have HCa : Hid (Calls Try.prog 11 #[.slice a9 (l.filter fun x => decide (x.d ≤ day)).length c9, .slice (some y) (0) (cap')] wA (PlanEnd wA (l.filter fun x => decide (x.d ≤ day)) ((([] : List Fl)).take (0)))) := by
                have h := plan_ok a9 c9 (l.filter fun x => decide (x.d ≤ day)) (some y) (cap') ((([] : List Fl)).take (0)) wA HS9.out.g HW1.out (by omega) (by omega) (fun x hx => HWf.out x (List.mem_filter.1 hx).1)
                rw [hl1] at h
                exact h
              have HCb : Hid (∀ W, Below wA.heap.size wA W → Calls Try.prog 11 #[.slice a10 (l.filter fun x => !decide (x.d ≤ day)).length c10, .slice (some y) (0) (cap')] W (PlanEnd W (l.filter fun x => !decide (x.d ≤ day)) ((([] : List Fl)).drop (0)))) := fun W hW => by
                have h := plan_ok a10 c10 (l.filter fun x => !decide (x.d ≤ day)) (some y) (cap') ((([] : List Fl)).drop (0)) W (HS10.out.after hW).g (HW2.out.after hW) (by omega) (by omega) (fun x hx => HWf.out x (List.mem_filter.1 hx).1)
                rw [hl2] at h
                exact h
              clear hl1 hl2
              go_wp2_with fail
              with_reducible refine HCa.out.mono ?_
              rintro e w20 ⟨aa, ca, pa, rfl, hsa, hpa, _, hba, _, hoa⟩
              rw [HE1.out]
              have zA := HBA.out.size
              have HPa := Lib.hid (hpa HE1.out)
              have HBa := Lib.hid hba
              have HOa := Lib.hid hoa
              have HCb2 := Lib.hid (HCb.out w20 hba)
              clear hsa hpa hba hoa HCa HCb
              go_wp2_with fail
              with_reducible refine HCb2.out.mono ?_
              rintro e w21 ⟨ab, cb, pb, rfl, hsb, hpb, _, hbb, _, _⟩
              rw [HE2.out]
              have hpp : pa ++ pb = p := (plan_parts (ordB_ok HOb.out).2 HDays.out.1 HDays.out.2 HPa.out (hpb HE2.out)).one HPlan.out
              have hlp := plan_len HPlan.out
              subst hpp
              have HOa2 : Hid (w21.ownsRow wA.heap.size 51 5 (.slice aa pa.length ca) pa.length (cellsL encG pa)) := own_kept HOa.out (below_row hbb none) (fun g _ e => by cases e)
              have HSb := Lib.hid hsb
              have HB21 : Hid (Below wA.heap.size wA w21) := HBa.out.trans (hbb.mono HBa.out.size)
              have HP21 : Hid (SlAt w21 5 encG a1 c1 (pa ++ pb)) := HPl1.out.after HB21.out
              have z21 := HB21.out.size
              have hlab : pa.length + pb.length ≤ 60 := by rw [List.length_append] at hlp; omega
              clear hsb hpb hbb HCb2 HPa HOa HPlan hlp
              go_wp2_with (at_builtin; refine wpList_wanted (by rfl) (fun K hK => wp_append_recs (.tmp 105) (.tmp 106) rfl wA.heap.size pa.length pa rfl HOa2.out ab pb.length cb pb rfl HSb.out.recs rfl (fun e => by have := HSb.out.g.no e; exact ⟨by rw [this.1]; rfl, this.2⟩) z21 (by omega) (fun v' w22 hown' hb22 => hK _ _ ?_)); rw [← List.length_append] at hown'; obtain ⟨av, cv, rfl, hsv, hxv⟩ := sl_own (enc := encG) (fun _ => rfl) hown'; have HB22 := Lib.hid (HB21.out.trans hb22); have hcs := same_ok av a1 cv c1 (pa ++ pb) w22 hsv.recs (HPl1.out.after (HB21.out.trans hb22)).recs (by rw [List.length_append]; omega); rw [List.length_append] at hcs; have HCs := Lib.hid hcs; clear hown' hsv hxv hb22 hcs)
              with_reducible refine HCs.out.mono ?_
              rintro e w23 ⟨rfl, hb23⟩
              have HB23 := Lib.hid (HBA.out.trans ((HB22.out.trans (hb23.mono HB22.out.size)).mono zA))
              clear hb23 HCs
              go_wp2_with fail
              with_reducible refine (awake_ok _).mono ?_
              rintro e w90 ⟨rfl, hb90⟩
              go_wp2_with fail
              go_ret
              exact ⟨rfl, HB23.out.trans (hb90.mono HB23.out.size)⟩
          · obtain ⟨n, hn'⟩ : ∃ n, f.length = n := ⟨_, rfl⟩
            rw [hn'] at HDays i1 e1
            have HW1 : Hid (SlG wA 3 encW (some ⟨b, o, none⟩) cap' (f.take n)) := ⟨RecsAt.takeR HfA.out.recs n, by rw [List.length_take]; omega, HfA.out.max, fun e => (by cases e), .inr ⟨b, o, rfl, hbl⟩⟩
            rw [hn']
            by_cases hnc : n = cap'
            · have HW2 : Hid (SlG wA 3 encW (some ⟨b, o, none⟩) 0 (f.drop n)) := by
                rw [List.drop_eq_nil_of_le (by omega)]
                exact ⟨RowsAt.nil _ _ _ _, Nat.le_refl _, Nat.zero_le _, fun e => (by cases e), .inl rfl⟩
              subst hnc
              have hl1 : ((f).take (n)).length = n := by first | (rw [List.length_take]; omega) | simp
              have hl2 : ((f).drop (n)).length = 0 := by first | (simp; done) | (rw [List.length_drop]; done) | (rw [List.length_drop]; omega)
              have HE1 : Hid (planE (l.filter fun x => decide (x.d ≤ day)) ((f).take (n)) = 0) := by
                show _ = _
                unfold planE ordE
                rw [if_pos (ckE_part HCk.out _), if_pos (ordB_take HOb.out (n))]
              have HE2 : Hid (planE (l.filter fun x => !decide (x.d ≤ day)) ((f).drop (n)) = 0) := by
                show _ = _
                unfold planE ordE
                rw [if_pos (ckE_part HCk.out _), if_pos (ordB_drop HOb.out (n))]
              have HCa : Hid (Calls Try.prog 11 #[.slice a9 (l.filter fun x => decide (x.d ≤ day)).length c9, .slice (some ⟨b, o, none⟩) (n) (n)] wA (PlanEnd wA (l.filter fun x => decide (x.d ≤ day)) ((f).take (n)))) := by
                have h := plan_ok a9 c9 (l.filter fun x => decide (x.d ≤ day)) (some ⟨b, o, none⟩) (n) ((f).take (n)) wA HS9.out.g HW1.out (by omega) (by omega) (fun x hx => HWf.out x (List.mem_filter.1 hx).1)
                rw [hl1] at h
                exact h
              have HCb : Hid (∀ W, Below wA.heap.size wA W → Calls Try.prog 11 #[.slice a10 (l.filter fun x => !decide (x.d ≤ day)).length c10, .slice (some ⟨b, o, none⟩) (0) (0)] W (PlanEnd W (l.filter fun x => !decide (x.d ≤ day)) ((f).drop (n)))) := fun W hW => by
                have h := plan_ok a10 c10 (l.filter fun x => !decide (x.d ≤ day)) (some ⟨b, o, none⟩) (0) ((f).drop (n)) W (HS10.out.after hW).g (HW2.out.after hW) (by omega) (by omega) (fun x hx => HWf.out x (List.mem_filter.1 hx).1)
                rw [hl2] at h
                exact h
              clear hl1 hl2
              go_wp2_with fail
              with_reducible refine HCa.out.mono ?_
              rintro e w20 ⟨aa, ca, pa, rfl, hsa, hpa, _, hba, _, hoa⟩
              rw [HE1.out]
              have zA := HBA.out.size
              have HPa := Lib.hid (hpa HE1.out)
              have HBa := Lib.hid hba
              have HOa := Lib.hid hoa
              have HCb2 := Lib.hid (HCb.out w20 hba)
              clear hsa hpa hba hoa HCa HCb
              go_wp2_with fail
              with_reducible refine HCb2.out.mono ?_
              rintro e w21 ⟨ab, cb, pb, rfl, hsb, hpb, _, hbb, _, _⟩
              rw [HE2.out]
              have hpp : pa ++ pb = p := (plan_parts (ordB_ok HOb.out).2 HDays.out.1 HDays.out.2 HPa.out (hpb HE2.out)).one HPlan.out
              have hlp := plan_len HPlan.out
              subst hpp
              have HOa2 : Hid (w21.ownsRow wA.heap.size 51 5 (.slice aa pa.length ca) pa.length (cellsL encG pa)) := own_kept HOa.out (below_row hbb none) (fun g _ e => by cases e)
              have HSb := Lib.hid hsb
              have HB21 : Hid (Below wA.heap.size wA w21) := HBa.out.trans (hbb.mono HBa.out.size)
              have HP21 : Hid (SlAt w21 5 encG a1 c1 (pa ++ pb)) := HPl1.out.after HB21.out
              have z21 := HB21.out.size
              have hlab : pa.length + pb.length ≤ 60 := by rw [List.length_append] at hlp; omega
              clear hsb hpb hbb HCb2 HPa HOa HPlan hlp
              go_wp2_with (at_builtin; refine wpList_wanted (by rfl) (fun K hK => wp_append_recs (.tmp 105) (.tmp 106) rfl wA.heap.size pa.length pa rfl HOa2.out ab pb.length cb pb rfl HSb.out.recs rfl (fun e => by have := HSb.out.g.no e; exact ⟨by rw [this.1]; rfl, this.2⟩) z21 (by omega) (fun v' w22 hown' hb22 => hK _ _ ?_)); rw [← List.length_append] at hown'; obtain ⟨av, cv, rfl, hsv, hxv⟩ := sl_own (enc := encG) (fun _ => rfl) hown'; have HB22 := Lib.hid (HB21.out.trans hb22); have hcs := same_ok av a1 cv c1 (pa ++ pb) w22 hsv.recs (HPl1.out.after (HB21.out.trans hb22)).recs (by rw [List.length_append]; omega); rw [List.length_append] at hcs; have HCs := Lib.hid hcs; clear hown' hsv hxv hb22 hcs)
              with_reducible refine HCs.out.mono ?_
              rintro e w23 ⟨rfl, hb23⟩
              have HB23 := Lib.hid (HBA.out.trans ((HB22.out.trans (hb23.mono HB22.out.size)).mono zA))
              clear hb23 HCs
              go_wp2_with fail
              with_reducible refine (awake_ok _).mono ?_
              rintro e w90 ⟨rfl, hb90⟩
              go_wp2_with fail
              go_ret
              exact ⟨rfl, HB23.out.trans (hb90.mono HB23.out.size)⟩
            · have HW2 : Hid (SlG wA 3 encW (some ⟨b, o + n * 3, none⟩) (cap' - n) (f.drop n)) := ⟨RecsAt.dropR HfA.out.recs n, by rw [List.length_drop]; omega, by have := HfA.out.max; omega, fun e => (by cases e), .inr ⟨b, o + n * 3, rfl, hbl⟩⟩
              have hl1 : ((f).take (n)).length = n := by first | (rw [List.length_take]; omega) | simp
              have hl2 : ((f).drop (n)).length = 0 := by first | (simp; done) | (rw [List.length_drop]; done) | (rw [List.length_drop]; omega)
              have HE1 : Hid (planE (l.filter fun x => decide (x.d ≤ day)) ((f).take (n)) = 0) := by
                show _ = _
                unfold planE ordE
                rw [if_pos (ckE_part HCk.out _), if_pos (ordB_take HOb.out (n))]
              have HE2 : Hid (planE (l.filter fun x => !decide (x.d ≤ day)) ((f).drop (n)) = 0) := by
                show _ = _
                unfold planE ordE
                rw [if_pos (ckE_part HCk.out _), if_pos (ordB_drop HOb.out (n))]
              have HCa : Hid (Calls Try.prog 11 #[.slice a9 (l.filter fun x => decide (x.d ≤ day)).length c9, .slice (some ⟨b, o, none⟩) (n) (cap')] wA (PlanEnd wA (l.filter fun x => decide (x.d ≤ day)) ((f).take (n)))) := by
                have h := plan_ok a9 c9 (l.filter fun x => decide (x.d ≤ day)) (some ⟨b, o, none⟩) (cap') ((f).take (n)) wA HS9.out.g HW1.out (by omega) (by omega) (fun x hx => HWf.out x (List.mem_filter.1 hx).1)
                rw [hl1] at h
                exact h
              have HCb : Hid (∀ W, Below wA.heap.size wA W → Calls Try.prog 11 #[.slice a10 (l.filter fun x => !decide (x.d ≤ day)).length c10, .slice (some ⟨b, o + n * 3, none⟩) (0) (cap' - n)] W (PlanEnd W (l.filter fun x => !decide (x.d ≤ day)) ((f).drop (n)))) := fun W hW => by
                have h := plan_ok a10 c10 (l.filter fun x => !decide (x.d ≤ day)) (some ⟨b, o + n * 3, none⟩) (cap' - n) ((f).drop (n)) W (HS10.out.after hW).g (HW2.out.after hW) (by omega) (by omega) (fun x hx => HWf.out x (List.mem_filter.1 hx).1)
                rw [hl2] at h
                exact h
              clear hl1 hl2
              go_wp2_with fail
              with_reducible refine HCa.out.mono ?_
              rintro e w20 ⟨aa, ca, pa, rfl, hsa, hpa, _, hba, _, hoa⟩
              rw [HE1.out]
              have zA := HBA.out.size
              have HPa := Lib.hid (hpa HE1.out)
              have HBa := Lib.hid hba
              have HOa := Lib.hid hoa
              have HCb2 := Lib.hid (HCb.out w20 hba)
              clear hsa hpa hba hoa HCa HCb
              go_wp2_with fail
              with_reducible refine HCb2.out.mono ?_
              rintro e w21 ⟨ab, cb, pb, rfl, hsb, hpb, _, hbb, _, _⟩
              rw [HE2.out]
              have hpp : pa ++ pb = p := (plan_parts (ordB_ok HOb.out).2 HDays.out.1 HDays.out.2 HPa.out (hpb HE2.out)).one HPlan.out
              have hlp := plan_len HPlan.out
              subst hpp
              have HOa2 : Hid (w21.ownsRow wA.heap.size 51 5 (.slice aa pa.length ca) pa.length (cellsL encG pa)) := own_kept HOa.out (below_row hbb none) (fun g _ e => by cases e)
              have HSb := Lib.hid hsb
              have HB21 : Hid (Below wA.heap.size wA w21) := HBa.out.trans (hbb.mono HBa.out.size)
              have HP21 : Hid (SlAt w21 5 encG a1 c1 (pa ++ pb)) := HPl1.out.after HB21.out
              have z21 := HB21.out.size
              have hlab : pa.length + pb.length ≤ 60 := by rw [List.length_append] at hlp; omega
              clear hsb hpb hbb HCb2 HPa HOa HPlan hlp
              go_wp2_with (at_builtin; refine wpList_wanted (by rfl) (fun K hK => wp_append_recs (.tmp 105) (.tmp 106) rfl wA.heap.size pa.length pa rfl HOa2.out ab pb.length cb pb rfl HSb.out.recs rfl (fun e => by have := HSb.out.g.no e; exact ⟨by rw [this.1]; rfl, this.2⟩) z21 (by omega) (fun v' w22 hown' hb22 => hK _ _ ?_)); rw [← List.length_append] at hown'; obtain ⟨av, cv, rfl, hsv, hxv⟩ := sl_own (enc := encG) (fun _ => rfl) hown'; have HB22 := Lib.hid (HB21.out.trans hb22); have hcs := same_ok av a1 cv c1 (pa ++ pb) w22 hsv.recs (HPl1.out.after (HB21.out.trans hb22)).recs (by rw [List.length_append]; omega); rw [List.length_append] at hcs; have HCs := Lib.hid hcs; clear hown' hsv hxv hb22 hcs)
              with_reducible refine HCs.out.mono ?_
              rintro e w23 ⟨rfl, hb23⟩
              have HB23 := Lib.hid (HBA.out.trans ((HB22.out.trans (hb23.mono HB22.out.size)).mono zA))
              clear hb23 HCs
              go_wp2_with fail
              with_reducible refine (awake_ok _).mono ?_
              rintro e w90 ⟨rfl, hb90⟩
              go_wp2_with fail
              go_ret
              exact ⟨rfl, HB23.out.trans (hb90.mono HB23.out.size)⟩

end Go.Proofs.Ytmjgcenhgpkhiaa
