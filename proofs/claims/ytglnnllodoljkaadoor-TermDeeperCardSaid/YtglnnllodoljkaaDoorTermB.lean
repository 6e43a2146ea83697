/- Package term: the places behind terms (end), as a count over the row of ops. -/
import Derived.Test.YtglnnllodoljkaaDoorTermA
namespace Go.Proofs.YtglnnllodoljkaaDoor
open Go.RowKit
set_option linter.unusedVariables false
set_option linter.unusedSimpArgs false

/-- A node. -/
structure Nd where
  op : Int
  a : Int
  b : Int
  num : Int
  den : Int
instance : Inhabited Nd := ⟨⟨0, 0, 0, 0, 0⟩⟩
def Nd.at (ns : List Nd) (i : Nat) : Nd := ns.getD i default
def Nd.row (ns : List Nd) (i : Nat) : List Value := [.int .i64 (Nd.at ns i).op, .int .i64 (Nd.at ns i).a, .int .i64 (Nd.at ns i).b, .int .i64 (Nd.at ns i).num, .int .i64 (Nd.at ns i).den]
def NdsAt (w : World) (a : Option Addr) (ns : List Nd) : Prop := RowsAt w a ns.length 5 (Nd.row ns)
theorem NdsAt.after {w w' : World} {a : Option Addr} {ns : List Nd} (h : NdsAt w a ns) (hb : Below w.heap.size w w') : NdsAt w' a ns := RowsAt.after h hb

/-- How many stand below an op. -/
def mny (op : Int) : Nat := (shp op 1).toNat
theorem mny_int (op : Int) : (mny op : Int) = shp op 1 ∧ mny op ≤ 4 := by
  unfold mny
  by_cases h : 0 ≤ op ∧ op < 18
  · obtain ⟨k, rfl⟩ : ∃ k : Nat, op = k := ⟨op.toNat, by omega⟩
    have hk : k < 18 := by omega
    rw [shp_in hk]
    have : ∀ k, k < 18 → 0 ≤ shN k 1 ∧ shN k 1 ≤ 4 := by decide
    have := this k hk
    omega
  · rw [shp_out h]
    decide

/-- How many nodes k terms at the head of a row have. -/
def skip : Nat → List Int → Option Nat
  | 0, _ => some 0
  | _ + 1, [] => none
  | k + 1, op :: l => if shp op 0 = 0 then none else (skip (k + mny op) l).map (· + 1)

theorem skip_zero (l : List Int) : skip 0 l = some 0 := by cases l <;> rfl
theorem skip_add : ∀ (l : List Int) (j k : Nat), skip (j + k) l = (skip j l).bind fun n => (skip k (l.drop n)).map (n + ·)
  | l, 0, k => by
    rw [skip_zero, Nat.zero_add]
    simp
  | [], j + 1, k => by
    rw [show j + 1 + k = (j + k) + 1 from by omega]
    rfl
  | op :: l, j + 1, k => by
    rw [show j + 1 + k = (j + k) + 1 from by omega, skip, skip]
    by_cases h : shp op 0 = 0
    · simp [h]
    · rw [if_neg h, if_neg h, show j + k + mny op = (j + mny op) + k from by omega, skip_add l]
      cases skip (j + mny op) l with
      | none => rfl
      | some n =>
        simp only [Option.bind_some, Option.map_some, List.drop_succ_cons]
        cases skip k (l.drop n) with
        | none => rfl
        | some m => simp; omega
theorem skip_le : ∀ (l : List Int) (k n : Nat), skip k l = some n → k ≤ n ∧ n ≤ l.length
  | l, 0, n, h => by
    rw [skip_zero] at h
    cases h
    exact ⟨Nat.le_refl _, Nat.zero_le _⟩
  | [], k + 1, n, h => by cases h
  | op :: l, k + 1, n, h => by
    rw [skip] at h
    by_cases h0 : shp op 0 = 0
    · rw [if_pos h0] at h
      cases h
    · rw [if_neg h0] at h
      cases e : skip (k + mny op) l with
      | none => rw [e] at h; cases h
      | some m =>
        rw [e] at h
        cases h
        have := skip_le l _ _ e
        simp only [List.length_cons]
        omega

def opsOf (ns : List Nd) : List Int := ns.map Nd.op
theorem opsOf_len (ns : List Nd) : (opsOf ns).length = ns.length := by simp [opsOf]
theorem opsOf_drop (ns : List Nd) (i : Nat) (h : i < ns.length) : (opsOf ns).drop i = (Nd.at ns i).op :: (opsOf ns).drop (i + 1) := by
  rw [List.drop_eq_getElem_cons (by rw [opsOf_len]; exact h)]
  simp [opsOf, Nd.at, List.getD_eq_getElem?_getD, h]
theorem opsOf_over (ns : List Nd) (i : Nat) (h : ns.length ≤ i) : (opsOf ns).drop i = [] := List.drop_eq_nil_of_le (by rw [opsOf_len]; exact h)

/-- The place behind the term at a place. -/
def endV (ns : List Nd) (at_ : Nat) : Int := match skip 1 ((opsOf ns).drop at_) with
  | some n => ((at_ + n : Nat) : Int)
  | none => -1
theorem endV_some {ns : List Nd} {i n : Nat} (h : skip 1 ((opsOf ns).drop i) = some n) : endV ns i = ((i + n : Nat) : Int) := by unfold endV; rw [h]
theorem endV_none {ns : List Nd} {i : Nat} (h : skip 1 ((opsOf ns).drop i) = none) : endV ns i = -1 := by unfold endV; rw [h]
theorem skip_one {ns : List Nd} {i : Nat} (h : i < ns.length) (h0 : shp (Nd.at ns i).op 0 ≠ 0) : skip 1 ((opsOf ns).drop i) = (skip (mny (Nd.at ns i).op) ((opsOf ns).drop (i + 1))).map (· + 1) := by
  rw [opsOf_drop ns i h, skip, if_neg h0, Nat.zero_add]
theorem skip_none {ns : List Nd} {i : Nat} (h : i < ns.length) (h0 : shp (Nd.at ns i).op 0 = 0) : skip 1 ((opsOf ns).drop i) = none := by
  rw [opsOf_drop ns i h, skip, if_pos h0]
theorem skip_over {ns : List Nd} {i : Nat} (h : ns.length ≤ i) : skip 1 ((opsOf ns).drop i) = none := by
  rw [opsOf_over ns i h]
  rfl
/-- One more. -/
theorem skip_next {ns : List Nd} {j k m : Nat} (h : skip k ((opsOf ns).drop j) = some m) : skip (k + 1) ((opsOf ns).drop j) = (skip 1 ((opsOf ns).drop (j + m))).map (m + ·) := by
  rw [skip_add, h]
  simp [List.drop_drop]
theorem skip_stop {ns : List Nd} {j k m n : Nat} (h : skip k ((opsOf ns).drop j) = some m) (h1 : skip 1 ((opsOf ns).drop (j + m)) = none) (hn : k < n) : skip n ((opsOf ns).drop j) = none := by
  obtain ⟨d, rfl⟩ : ∃ d, n = (k + 1) + d := ⟨n - (k + 1), by omega⟩
  rw [skip_add, skip_next h, h1]
  rfl

set_option maxHeartbeats 1000000 in
set_option maxRecDepth 100000 in
theorem end_ok (a : Option Addr) (cap : Nat) (ns : List Nd) (hl : ns.length ≤ 1000000) : ∀ (m i : Nat), ns.length - i ≤ m → i ≤ 1000000 → ∀ w : World, ShapesAt w → NdsAt w a ns →
    Calls Tryd.prog 33 #[.slice a ns.length cap, .int .i64 i] w fun e w' => e = .returned (.int .i64 (endV ns i)) ∧ Below w.heap.size w w'
  | m, i, hm, hi, w, hS, hN => by
    by_cases h : i < ns.length
    · obtain ⟨b, o, rfl, hc⟩ := hN (by omega)
      have c0 : w.cell? ⟨b, o + i * 5, none⟩ = some (.int .i64 (Nd.at ns i).op) := hc i h 0 _ rfl
      clear hc
      obtain ⟨op, hop⟩ : ∃ op, (Nd.at ns i).op = op := ⟨_, rfl⟩
      rw [hop] at c0
      have h1 : (i : Int) < (ns.length : Int) := by omega
      have HS := Lib.hid (sort_ok op w hS)
      have HB := Lib.hid hN
      have HO := Lib.hid hop
      have HM := Lib.hid hm
      have HI := Lib.hid hS
      clear hN hop hm hS
      by_cases h0 : shp op 0 = 0
      · rw [endV_none (skip_none h (by rw [HO.out]; exact h0))]
        rw [h0] at HS
        clear h0
        go_enter Tryd.func33, Tryd.ntmps33
        go_wp2_with fail
        with_reducible refine HS.out.mono ?_
        rintro e w1 ⟨rfl, hb1⟩
        go_wp2_with fail
        go_ret
        exact ⟨rfl, hb1⟩
      · cases m with
        | zero => exact absurd HM.out (by omega)
        | succ m =>
        have IH := Lib.hid (end_ok (some ⟨b, o, none⟩) cap ns hl m)
        have HV := Lib.hid (skip_one h (by rw [HO.out]; exact h0))
        obtain ⟨hm1, hm2⟩ := mny_int op
        rw [HO.out] at HV
        have HF := Lib.hid (of_ok op)
        unfold shapeV at HF
        rw [← hm1] at HF
        obtain ⟨M, hM⟩ : ∃ M, mny op = M := ⟨_, rfl⟩
        rw [hM] at HF HV hm2
        clear hm1 hM
        go_enter Tryd.func33, Tryd.ntmps33
        go_wp2_with fail
        with_reducible refine HS.out.mono ?_
        rintro e w1 ⟨rfl, hb1⟩
        have c1 := below_cell hb1 c0
        have hz : decide (ns.length ≤ i) = false := by simp; omega
        have hy : (shp op 0 == 0) = false := by simp [h0]
        go_wp2_with fail
        with_reducible refine (HF.out w1 (HI.out.after hb1)).mono ?_
        rintro e w2 ⟨rfl, hb2⟩
        have hf := fun w => shape_field1 (.int .i64 (shp op 0)) (.int .i64 M) (.int .i64 (shp op 2)) (.int .i64 (shp op 3)) (.int .i64 (shp op 4)) (.int .i64 (shp op 5)) w
        go_wp2_with fail
        have hb2w : Below w.heap.size w w2 := hb1.trans (hb2.mono hb1.size)
        clear c0 c1 hz hy hf hb1 hb2 h1 h0 HS HF
        have HL := Lib.hid h
        clear h
        go_loopw [5, 28] (fun m c wr => ∃ k j : Nat, k ≤ M ∧ i + 1 ≤ j ∧ j ≤ ns.length ∧ m = .int .i64 (j : Int) ∧ c = .int .i64 (k : Int) ∧ Hid (skip k ((opsOf ns).drop (i + 1)) = some (j - (i + 1))) ∧ Below w.heap.size w wr) (fun _ c _ => M - (intOf c).toNat)
        case atStart => exact ⟨0, i + 1, by omega, by omega, by have := HL.out; omega, by simp, rfl, by rw [Nat.sub_self]; exact skip_zero _, hb2w⟩
        case round =>
          obtain ⟨k, j, hk, hj, hjl, rfl, rfl, HK, hbl⟩ := hrel
          by_cases hkM : k < M
          · have hk1 : (k : Int) < (M : Int) := by omega
            clear hkM
            go_wp2_with fail
            have HH := IH.out j (by have := HM.out; omega) (by omega) wr (HI.out.after hbl) (HB.out.after hbl)
            with_reducible refine HH.mono ?_
            rintro e w3 ⟨rfl, hb3⟩
            have hb3w : Below w.heap.size w w3 := hbl.trans (hb3.mono hbl.size)
            clear HH hb3
            have HNX := Lib.hid (skip_next HK.out)
            rw [show i + 1 + (j - (i + 1)) = j from by omega] at HNX
            cases HQ : skip 1 ((opsOf ns).drop j) with
            | none =>
              rw [endV_none HQ]
              have HE := Lib.hid (skip_stop HK.out (by rw [show i + 1 + (j - (i + 1)) = j from by omega]; exact HQ) (show k < M by omega))
              clear HQ
              go_wp2_with fail
              go_ret
              exact ⟨by rw [HE.out] at HV; rw [endV_none HV.out]; rfl, hb3w⟩
            | some q =>
              rw [endV_some HQ]
              rw [HQ] at HNX
              have hq := (skip_le _ _ _ HQ).2
              rw [List.length_drop, opsOf_len] at hq
              clear HQ
              obtain ⟨j', hj'⟩ : ∃ j', j + q = j' := ⟨_, rfl⟩
              rw [hj']
              have HJ := Lib.hid hj'
              have hjl' : j' ≤ ns.length := by omega
              have hqj : Hid (q = j' - j ∧ j ≤ j') := by constructor <;> omega
              clear hj' hq
              go_wp2_with fail
              go_roundw
              case rel => exact ⟨k + 1, j', by omega, by have := hqj.out; omega, hjl', rfl, by simp, by have e := HNX.out; have := hqj.out; rw [Option.map_some] at e; exact Lib.hid (e.trans (congrArg some (by omega))), hb3w⟩
              case measure => simp [intOf]; omega
          · obtain rfl : k = M := by omega
            rw [HK.out] at HV
            go_wp2_with fail
            go_ret
            exact ⟨by have e := HV.out; rw [Option.map_some] at e; have hv : endV ns i = (j : Int) := (by rw [endV_some e]; omega); rw [hv]; rfl, hbl⟩
    · have h1 : (ns.length : Int) ≤ (i : Int) := by omega
      rw [endV_none (skip_over (by omega))]
      clear hN hS
      go_enter Tryd.func33, Tryd.ntmps33
      go_wp2_with fail
      go_ret
      exact ⟨rfl, Below.refl _ _⟩

end Go.Proofs.YtglnnllodoljkaaDoor
