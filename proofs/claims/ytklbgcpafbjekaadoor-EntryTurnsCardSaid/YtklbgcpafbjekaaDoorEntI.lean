/- Package entry: Total. -/
import Derived.Test.YtklbgcpafbjekaaDoorEntH
import Derived.Test.YtklbgcpafbjekaaDoorGen
namespace Go.Proofs.YtklbgcpafbjekaaDoor
open Go.RowKit
set_option linter.unusedVariables false
set_option linter.unusedSimpArgs false

/-- An entry, and where its lines lie. -/
structure En where
  s : Six
  a : Option Addr
  cap : Nat
  ls : List Ln
def En.at (es : List En) (i : Nat) : En := es.getD i ⟨zero6, none, 0, []⟩
def En.cs (e : En) : List Value := [.int .i64 e.s.con, .int .i64 e.s.day, .int .i64 e.s.cur, .int .i64 e.s.seq, .int .i64 e.s.per, .int .i64 e.s.ref, .slice e.a e.ls.length e.cap]
def En.row (es : List En) (i : Nat) : List Value := (En.at es i).cs
structure EnOk (w : World) (e : En) : Prop where
  ln : LnAt w e.a e.ls
  wf : AllWf e.ls
  few : e.ls.length ≤ 1000
  nil : e.a = none → e.ls.length = 0 ∧ e.cap = 0
theorem EnOk.after {w w' : World} {e : En} (h : EnOk w e) (hb : Below w.heap.size w w') : EnOk w' e := ⟨h.ln.after hb, h.wf, h.few, h.nil⟩
def EnsAt (w : World) (a : Option Addr) (es : List En) : Prop := RowsAt w a es.length 7 (En.row es) ∧ ∀ i, i < es.length → EnOk w (En.at es i)
theorem EnsAt.after {w w' : World} {a : Option Addr} {es : List En} (h : EnsAt w a es) (hb : Below w.heap.size w w') : EnsAt w' a es := ⟨h.1.after hb, fun i hi => (h.2 i hi).after hb⟩

/-- Does a line of an entry count? -/
def hit (t : Ln) (party : Int) (e : En) (l : Ln) : Bool := decide (e.s.tag = t) && decide (l.p = party)
theorem hit_tag {t : Ln} {party : Int} {e : En} {l : Ln} (h : ¬ e.s.tag = t) : hit t party e l = false := by unfold hit; rw [decide_eq_false h, Bool.false_and]
theorem hit_party {t : Ln} {party : Int} {e : En} {l : Ln} (h : ¬ l.p = party) : hit t party e l = false := by unfold hit; rw [decide_eq_false h, Bool.and_false]
def totIn (t : Ln) (party : Int) (e : En) (j : Nat) : List Int := ((e.ls.take j).filter (hit t party e)).map Ln.a
def totK (t : Ln) (party : Int) (es : List En) : Nat → List Int
  | 0 => []
  | k + 1 => totK t party es k ++ totIn t party (En.at es k) (En.at es k).ls.length
theorem totIn_yes {t : Ln} {party : Int} {e : En} {j : Nat} (hj : j < e.ls.length) (h : hit t party e (Ln.at e.ls j) = true) : totIn t party e (j + 1) = totIn t party e j ++ [(Ln.at e.ls j).a] := by
  unfold totIn
  rw [List.take_succ_eq_append_getElem hj, List.filter_append, List.map_append]
  have e1 : e.ls[j] = Ln.at e.ls j := by unfold Ln.at; rw [List.getD_eq_getElem?_getD, List.getElem?_eq_getElem hj]; rfl
  rw [e1, List.filter_cons, if_pos h]
  rfl
theorem totIn_no {t : Ln} {party : Int} {e : En} {j : Nat} (hj : j < e.ls.length) (h : hit t party e (Ln.at e.ls j) = false) : totIn t party e (j + 1) = totIn t party e j := by
  unfold totIn
  rw [List.take_succ_eq_append_getElem hj, List.filter_append, List.map_append]
  have e1 : e.ls[j] = Ln.at e.ls j := by unfold Ln.at; rw [List.getD_eq_getElem?_getD, List.getElem?_eq_getElem hj]; rfl
  rw [e1, List.filter_cons, if_neg (by rw [h]; decide)]
  simp
theorem totIn_len (t : Ln) (party : Int) (e : En) (j : Nat) (hf : e.ls.length ≤ 1000) : (totIn t party e j).length ≤ 1000 := by
  unfold totIn
  have := List.length_filter_le (hit t party e) (e.ls.take j)
  have h2 := List.length_take_le' j e.ls
  rw [List.length_map]
  omega
theorem totK_len (t : Ln) (party : Int) (es : List En) (hf : ∀ i, i < es.length → (En.at es i).ls.length ≤ 1000) : ∀ k, k ≤ es.length → (totK t party es k).length ≤ 1000 * k
  | 0, _ => by simp [totK]
  | k + 1, h => by
    have h1 := totK_len t party es hf k (by omega)
    have h2 := totIn_len t party (En.at es k) (En.at es k).ls.length (hf k (by omega))
    rw [totK, List.length_append]
    omega
theorem totIn_wf (t : Ln) (party : Int) (e : En) (j : Nat) (hw : AllWf e.ls) : ∀ x ∈ totIn t party e j, -9223372036854775808 ≤ x ∧ x ≤ 9223372036854775807 := fun x hx => by
  unfold totIn at hx
  obtain ⟨l, hl, rfl⟩ := List.mem_map.1 hx
  exact (hw l (List.mem_of_mem_take (List.mem_filter.1 hl).1)).2.2
theorem totK_wf (t : Ln) (party : Int) (es : List En) (hw : ∀ i, i < es.length → AllWf (En.at es i).ls) : ∀ k, k ≤ es.length → ∀ x ∈ totK t party es k, -9223372036854775808 ≤ x ∧ x ≤ 9223372036854775807
  | 0, _, x, hx => by simp [totK] at hx
  | k + 1, h, x, hx => by
    rw [totK, List.mem_append] at hx
    rcases hx with hx | hx
    · exact totK_wf t party es hw k (by omega) x hx
    · exact totIn_wf t party _ _ (hw k (by omega)) x hx

/-- Integers as cells. -/
def intsV (xs : List Int) : List Value := xs.map (Value.int .i64)
theorem intsV_snoc (xs : List Int) (x : Int) : intsV (xs ++ [x]) = intsV xs ++ [.int .i64 x] := by simp [intsV]
theorem owned_ints {w : World} {base n : Nat} {v : Value} {xs : List Int} (h : w.ownsRow base 3 1 v n (intsV xs)) :
    ∃ c cap, v = .slice c n cap ∧ xs.length = n ∧ (c = none → n = 0 ∧ cap = 0) ∧ n ≤ cap ∧ cap ≤ maxLen ∧ (∀ x, c = some x → base ≤ x.block ∧ x.block < w.heap.size) ∧ RowAt w c n (numV xs) := by
  have hn : xs.length = n := by have := h.1; simpa [intsV] using this
  obtain ⟨a, cap, rfl, g0, g1, g2, g3, h4⟩ := owned_parts h
  rw [Nat.mul_one] at h4
  refine ⟨a, cap, rfl, hn, g0, g1, g2, g3, h4.congr fun i hi => ?_⟩
  unfold numV intsV
  rw [List.getD_eq_getElem?_getD, List.getElem?_map, List.getD_eq_getElem?_getD, List.getElem?_eq_getElem (by omega)]
  rfl

theorem own_after {w w' : World} {base e size n : Nat} {v : Value} {xs : List Value} (h : w.ownsRow base e size v n xs) (hb : Below w.heap.size w w') : w'.ownsRow base e size v n xs := by
  obtain ⟨h1, h2⟩ := h
  refine ⟨h1, ?_⟩
  rcases h2 with h2 | ⟨g, cap, cur, hv, hg, hh, r⟩
  · exact Or.inl h2
  · exact Or.inr ⟨g, cap, cur, hv, hg, (hb.block g (lt_of_block hh)).trans hh, r⟩

set_option maxHeartbeats 2000000 in
theorem total_ok (t : Ln) (party : Int) (a : Option Addr) (cap : Nat) (es : List En) (w : World) (h : EnsAt w a es) (hl : es.length ≤ 1000) :
    Calls Tryd.prog 20 #[t.v, .int .i64 party, .slice a es.length cap] w fun e w' => e = .returned (sumA (totK t party es es.length).sum) ∧ Below w.heap.size w w' := by
  obtain ⟨i0, hi, hz0, hz1, hz2⟩ := info_parts infoInt
  obtain ⟨tp, tc, ta⟩ := t
  have HS := Lib.hid h
  have HL := Lib.hid (totK_len ⟨tp, tc, ta⟩ party es fun i hi => (h.2 i hi).few)
  have HW := Lib.hid (totK_wf ⟨tp, tc, ta⟩ party es fun i hi => (h.2 i hi).wf)
  clear h
  show Calls Tryd.prog 20 #[.agg #[.int .i64 tp, .int .i64 tc, .int .i64 ta], .int .i64 party, .slice a es.length cap] w _
  obtain ⟨wa, hwa⟩ : ∃ wa, w.alloc (.cells #[.int .i64 tp, .int .i64 tc, .int .i64 ta] 23) = wa := ⟨_, rfl⟩
  have hba : Below w.heap.size w wa := by rw [← hwa]; exact (Below.refl _ _).alloc (Nat.le_refl _) _
  have hza : wa.heap.size = w.heap.size + 1 := by rw [← hwa]; simp
  have HB : Hid (Blk wa w.heap.size #[.int .i64 tp, .int .i64 tc, .int .i64 ta] 23) := by rw [← hwa]; exact Blk.new _ _ _
  have HZA := Lib.hid hza
  clear hza
  go_enter Tryd.func20, Tryd.ntmps20
  go_wp2_with fail
  clear hwa
  go_loopw [8, 10, 12, 15, 20, 21, 22] (fun v _ _ i _ _ _ wr => ∃ k : Nat, k ≤ es.length ∧ i = .int .i64 k ∧ wr.ownsRow wa.heap.size 3 1 v (totK ⟨tp, tc, ta⟩ party es k).length (intsV (totK ⟨tp, tc, ta⟩ party es k)) ∧ Below wa.heap.size wa wr) (fun _ _ _ i _ _ _ _ => es.length - (intOf i).toNat)
  case atStart => exact ⟨0, by omega, rfl, World.ownsRow_nil _ _ _ _, Below.refl _ _⟩
  case round =>
    obtain ⟨k, hk, rfl, hown, hbl⟩ := hrel
    by_cases hlt : k < es.length
    · obtain ⟨hrows, hens⟩ := (HS.out.after hba).after hbl
      obtain ⟨b, o, rfl, hcell⟩ := hrows (by omega)
      have hE := (HS.out.after hba).2 k hlt
      have c0 : wr.cell? ⟨b, o + k * 7, none⟩ = some (.int .i64 (En.at es k).s.con) := hcell k hlt 0 _ rfl
      have c1 : wr.cell? ⟨b, o + k * 7 + 1, none⟩ = some (.int .i64 (En.at es k).s.day) := hcell k hlt 1 _ rfl
      have c2 : wr.cell? ⟨b, o + k * 7 + 2, none⟩ = some (.int .i64 (En.at es k).s.cur) := hcell k hlt 2 _ rfl
      have c3 : wr.cell? ⟨b, o + k * 7 + 3, none⟩ = some (.int .i64 (En.at es k).s.seq) := hcell k hlt 3 _ rfl
      have c4 : wr.cell? ⟨b, o + k * 7 + 4, none⟩ = some (.int .i64 (En.at es k).s.per) := hcell k hlt 4 _ rfl
      have c5 : wr.cell? ⟨b, o + k * 7 + 5, none⟩ = some (.int .i64 (En.at es k).s.ref) := hcell k hlt 5 _ rfl
      have c6 : wr.cell? ⟨b, o + k * 7 + 6, none⟩ = some (.slice (En.at es k).a (En.at es k).ls.length (En.at es k).cap) := hcell k hlt 6 _ rfl
      have hlen := HL.out k (by omega)
      have HK : Hid (totK ⟨tp, tc, ta⟩ party es (k + 1) = totK ⟨tp, tc, ta⟩ party es k ++ totIn ⟨tp, tc, ta⟩ party (En.at es k) (En.at es k).ls.length) := rfl
      obtain ⟨E, hEE⟩ : ∃ E, En.at es k = E := ⟨_, rfl⟩
      rw [hEE] at c0 c1 c2 c3 c4 c5 c6 hE HK
      clear hcell hrows hens hEE
      obtain ⟨⟨con, day, cur, seq, per, ref⟩, ea, ecap, els⟩ := E
      simp only at c0 c1 c2 c3 c4 c5 c6 HK
      have HE := Lib.hid hE
      have hf : els.length ≤ 1000 := hE.few
      obtain ⟨K, hKK⟩ : ∃ K, totK ⟨tp, tc, ta⟩ party es k = K := ⟨_, rfl⟩
      rw [hKK] at hown hlen HK
      clear hKK hE
      have i1 : (0 : Int) ≤ (k : Int) := by omega
      have i2 : (k : Int) < (es.length : Int) := by omega
      have hbx : Blk (wr.alloc (.cells #[.int .i64 con, .int .i64 day, .int .i64 cur, .int .i64 seq, .int .i64 per, .int .i64 ref, .slice ea els.length ecap] 26)) wr.heap.size #[.int .i64 con, .int .i64 day, .int .i64 cur, .int .i64 seq, .int .i64 per, .int .i64 ref, .slice ea els.length ecap] 26 := Blk.new _ _ _
      have HBX := Lib.hid hbx
      have b6 := hbx.cell 6 rfl
      have b0 := hbx.cell 0 rfl
      have b1 := hbx.cell 1 rfl
      have b2 := hbx.cell 2 rfl
      clear hbx
      go_wp2_with fail
      clear b0 b1 b2 b6 c0 c1 c2 c3 c4 c5 c6
      obtain ⟨wo, rfl⟩ : ∃ wo : World, wo = wr := ⟨_, rfl⟩
      go_loopw [8, 12, 22] (fun v _ i wi => ∃ j : Nat, j ≤ els.length ∧ i = .int .i64 j ∧ wi.ownsRow wa.heap.size 3 1 v (K ++ totIn ⟨tp, tc, ta⟩ party ⟨⟨con, day, cur, seq, per, ref⟩, ea, ecap, els⟩ j).length (intsV (K ++ totIn ⟨tp, tc, ta⟩ party ⟨⟨con, day, cur, seq, per, ref⟩, ea, ecap, els⟩ j)) ∧ Below wa.heap.size wa wi ∧ Blk wi wo.heap.size #[.int .i64 con, .int .i64 day, .int .i64 cur, .int .i64 seq, .int .i64 per, .int .i64 ref, .slice ea els.length ecap] 26) (fun _ _ i _ => els.length - (intOf i).toNat)
      case atStart => exact ⟨0, by omega, rfl, by simpa [totIn] using hown.alloc _, hbl.alloc hbl.size _, HBX.out⟩
      case round =>
        obtain ⟨j, hj, rfl, hown2, hbl2, hbx⟩ := hrel
        by_cases hlt2 : j < els.length
        · obtain ⟨b2, o2, ea', hc⟩ := (HE.out.ln.after hbl2) (by show 0 < els.length; omega)
          obtain rfl : ea = some ⟨b2, o2, none⟩ := ea'
          have hln := totIn_len ⟨tp, tc, ta⟩ party ⟨⟨con, day, cur, seq, per, ref⟩, some ⟨b2, o2, none⟩, ecap, els⟩ j hf
          have hy := totIn_yes (t := ⟨tp, tc, ta⟩) (party := party) (e := ⟨⟨con, day, cur, seq, per, ref⟩, some ⟨b2, o2, none⟩, ecap, els⟩) (j := j) hlt2
          have hn := totIn_no (t := ⟨tp, tc, ta⟩) (party := party) (e := ⟨⟨con, day, cur, seq, per, ref⟩, some ⟨b2, o2, none⟩, ecap, els⟩) (j := j) hlt2
          obtain ⟨d0, d1, d2⟩ := hc j hlt2
          simp only at d0 d1 d2 hy hn
          obtain ⟨⟨lp, lc, la⟩, hLL⟩ : ∃ L, Ln.at els j = L := ⟨_, rfl⟩
          rw [hLL] at d0 d1 d2 hy hn
          simp only at d0 d1 d2
          have HY := Lib.hid hy
          have HN := Lib.hid hn
          have t0 := (HB.out.after hbl2).cell 0 rfl
          have t1 := (HB.out.after hbl2).cell 1 rfl
          have t2 := (HB.out.after hbl2).cell 2 rfl
          have b0 := hbx.cell 0 rfl
          have b1 := hbx.cell 1 rfl
          have b2' := hbx.cell 2 rfl
          have zb := hbx.lt
          have zt := (HB.out.after hbl2).lt
          have hte := tag_eq con day cur tp tc ta
          have j1 : (0 : Int) ≤ (j : Int) := by omega
          have j2 : (j : Int) < (els.length : Int) := by omega
          clear hc hLL hy hn
          by_cases ht : (⟨con, day, cur⟩ : Ln) = ⟨tp, tc, ta⟩
          · rw [decide_eq_true ht] at hte
            by_cases hp : lp = party
            · have HT := Lib.hid (HY.out (by unfold hit; exact Bool.and_eq_true_iff.2 ⟨decide_eq_true ht, decide_eq_true hp⟩))
              subst hp
              obtain ⟨L, hL⟩ : ∃ L, K ++ totIn ⟨tp, tc, ta⟩ lp ⟨⟨con, day, cur, seq, per, ref⟩, some ⟨b2, o2, none⟩, ecap, els⟩ j = L := ⟨_, rfl⟩
              have hLn : L.length ≤ 1000000 := by rw [← hL, List.length_append]; omega
              have HL2 : Hid (K ++ totIn ⟨tp, tc, ta⟩ lp ⟨⟨con, day, cur, seq, per, ref⟩, some ⟨b2, o2, none⟩, ecap, els⟩ (j + 1) = L ++ [la]) := by rw [HT.out, ← List.append_assoc, hL]; rfl
              rw [hL] at hown2
              clear ht hL
              go_wp2_with (first | go_quiet (fail) | (at_builtin; refine wpList_append_own _ rfl _ _ 66 rfl wa.heap.size 3 i0 (.int .i64 0) 1 8 Tryd.underlying66 hi hz0 hz1 hz2 rfl (by decide) _ _ _ rfl ((hown2.alloc _).alloc _) ⟨wr.heap.size + 1, 0, none⟩ 1 1 [.int .i64 la] rfl rfl (by have := news_one (wr.alloc (.cells #[.int .i64 lp, .int .i64 lc, .int .i64 la] 62)) (.int .i64 la) 3; simpa using this) (by simp [Value.oneCell']) (by unfold maxLen; omega) (by omega) (by have := hbl2.size; simp; omega) ?_; intro v' w1 hown' hgrow _))
              have hb3 : Below wa.heap.size wa w1 := ((hbl2.alloc hbl2.size _).alloc (by have := hbl2.size; simp; omega) _).grown hgrow (by have := hbl2.size; simp; omega) (fun q e => by have := (hown2.lt q e).1; omega)
              have hbx3 : Blk w1 wo.heap.size _ _ := ((hbx.alloc _).alloc _).grown hgrow (hbx.own_ne hown2 (by decide))
              rw [← intsV_snoc] at hown'
              go_roundw
              case rel => exact ⟨j + 1, by omega, by go_num, by rw [HL2.out, List.length_append]; exact hown', hb3, hbx3⟩
              case measure => simp [intOf]; omega
            · have HT := Lib.hid (HN.out (hit_party hp))
              go_wp2_with (go_quiet (fail))
              have hb3 : Below wa.heap.size wa _ := hbl2.alloc hbl2.size (.cells #[.int .i64 lp, .int .i64 lc, .int .i64 la] 62)
              go_roundw
              case rel => exact ⟨j + 1, by omega, by go_num, by rw [HT.out]; exact hown2.alloc _, hb3, hbx.alloc _⟩
              case measure => simp [intOf]; omega
          · rw [decide_eq_false ht] at hte
            have HT := Lib.hid (HN.out (hit_tag ht))
            clear ht
            go_wp2_with (go_quiet (fail))
            have hb3 : Below wa.heap.size wa _ := hbl2.alloc hbl2.size (.cells #[.int .i64 lp, .int .i64 lc, .int .i64 la] 62)
            go_roundw
            case rel => exact ⟨j + 1, by omega, by go_num, by rw [HT.out]; exact hown2.alloc _, hb3, hbx.alloc _⟩
            case measure => simp [intOf]; omega
        · obtain rfl : j = els.length := by omega
          go_wp2_with fail
          go_roundw
          case rel => exact ⟨k + 1, by omega, by go_num, by rw [HK.out]; exact hown2, hbl2⟩
          case measure => simp [intOf]; omega
    · obtain rfl : k = es.length := by omega
      obtain ⟨c, capc, rfl, hcl, _, _, _, _, hrow⟩ := owned_ints hown
      have hwf := HW.out es.length (Nat.le_refl _)
      have hlen := HL.out es.length (Nat.le_refl _)
      have hsum := sum_amount c capc (totK ⟨tp, tc, ta⟩ party es es.length) wr hrow hwf (by omega)
      have hend : Below w.heap.size w wr := hba.trans (hbl.mono hba.size)
      have HQ : Hid (sumA (totK ⟨tp, tc, ta⟩ party es es.length).sum = if fitsI (totK ⟨tp, tc, ta⟩ party es es.length).sum = true then .tuple #[.int .i64 (totK ⟨tp, tc, ta⟩ party es es.length).sum, .int .i64 0] else .tuple #[.int .i64 0, .int .i64 11]) := rfl
      obtain ⟨S, hS⟩ : ∃ S, (totK ⟨tp, tc, ta⟩ party es es.length).sum = S := ⟨_, rfl⟩
      rw [hS] at hsum HQ
      cases hf : fitsI S
      all_goals
        rw [hf] at HQ
        first | rw [if_pos rfl] at HQ | rw [if_neg (by decide)] at HQ
        have HZ := Lib.hid HQ.out
        rw [HQ.out] at hsum
        have HC := Lib.hid hsum
        have HSS := Lib.hid hS
        clear hsum hrow hwf hf hown hcl HQ hS hlen
        go_wp2_with fail
        with_reducible refine HC.out.mono ?_
        rintro e w1 ⟨rfl, rfl⟩
        go_wp2_with fail
        go_ret2
        exact ⟨by rw [HSS.out, HZ.out]; rfl, hend⟩
end Go.Proofs.YtklbgcpafbjekaaDoor
