/- TermSizes. -/
import Derived.Test.YtglnnllodoljkaaDoorTermS
import Derived.Test.YtglnnllodoljkaaDoorTermH
namespace Go.Proofs.YtglnnllodoljkaaDoor
open Go.RowKit Go.Shelf
set_option linter.unusedVariables false
set_option linter.unusedSimpArgs false

set_option maxHeartbeats 4000000 in
set_option maxRecDepth 100000 in
theorem walk_TermSizes (W : World) (hS : ShapesAt W) (a : Option Addr) (cap : Nat) (ns : List Nd) (hN : NdsAt W a ns) (hI : NdsIn ns) (i : Int) (hi : -9223372036854775808 ≤ i ∧ i ≤ 9223372036854775807) :
    Calls Tryd.prog 3 #[.slice a ns.length cap, .int .i64 i] W fun e W' => e = .returned (.bool true) ∧ Below W.heap.size W W' := by
  have HS := Lib.hid hS
  have HN := Lib.hid hN
  have HA := Lib.hid (fun w hS => awake_ok w hS)
  clear hS hN hI hi
  by_cases h100 : 100 < ns.length
  · have h1 : 100 < (ns.length : Int) := by omega
    have HAA := Lib.hid (HA.out W HS.out)
    go_enter Tryd.func3, Tryd.ntmps3
    go_wp2_with fail
    with_reducible refine HAA.out.mono ?_
    rintro e w7 ⟨rfl, hb7⟩
    go_wp2_with fail
    go_ret
    exact ⟨rfl, hb7⟩
  have h1 : (ns.length : Int) ≤ 100 := by omega
  have hl : ns.length ≤ 1000000 := by omega
  have HZ := Lib.hid (size_ok a cap ns hl i W HS.out HN.out)
  unfold SizeEnd at HZ
  have HB := Lib.hid (fun w hS hN => below_ok a cap ns hl i w hS hN)
  unfold BelowEnd at HB
  obtain ⟨sv, hsv⟩ : ∃ sv, sizeV ns i = sv := ⟨_, rfl⟩
  obtain ⟨pv, hpv⟩ : ∃ pv, placesV ns i = pv := ⟨_, rfl⟩
  rw [hsv] at HZ
  simp only [hsv, hpv] at HB
  have HSV := Lib.hid hsv
  have HPV := Lib.hid hpv
  obtain ⟨sz, er⟩ := sv
  dsimp only at HZ HB
  clear hsv hpv
  go_enter Tryd.func3, Tryd.ntmps3
  go_wp2_with fail
  with_reducible refine HZ.out.mono ?_
  rintro e w1 ⟨rfl, hb1⟩
  have b1 : Hid (Below W.heap.size W w1) := hb1
  clear hb1 HZ
  go_wp2_with fail
  with_reducible refine (HB.out w1 (HS.out.after b1.out) (HN.out.after b1.out)).mono ?_
  rintro e w2 ⟨v, rfl, hown, hb2⟩
  obtain ⟨la, lcap, rfl, _, _, hla⟩ := ints_own hown rfl
  have HLA := Lib.hid hla
  have b2 : Hid (Below W.heap.size W w2) := b1.out.trans (hb2.mono b1.out.size)
  clear hown hla hb2 HB
  by_cases hr : i < 0 ∨ (ns.length : Int) ≤ i
  · obtain ⟨rfl, rfl⟩ : sz = 0 ∧ er = 10 := by
      have := HSV.out
      unfold sizeV at this
      rw [if_pos hr] at this
      cases this
      exact ⟨rfl, rfl⟩
    obtain rfl : pv = [] := by
      rw [← HPV.out]
      unfold placesV
      rw [HSV.out]
      rfl
    have HAA := Lib.hid (HA.out w2 (HS.out.after b2.out))
    clear HA
    rcases hr with hr | hr
    · go_wp2_with fail
      with_reducible refine HAA.out.mono ?_
      rintro e w7 ⟨rfl, hb7⟩
      go_wp2_with fail
      go_ret
      exact ⟨rfl, b2.out.trans (hb7.mono b2.out.size)⟩
    · have hr0 : 0 ≤ i := by omega
      go_wp2_with fail
      with_reducible refine HAA.out.mono ?_
      rintro e w7 ⟨rfl, hb7⟩
      go_wp2_with fail
      go_ret
      exact ⟨rfl, b2.out.trans (hb7.mono b2.out.size)⟩
  · obtain ⟨j, rfl⟩ : ∃ j : Nat, i = j := ⟨i.toNat, by omega⟩
    have hj : (j : Int) < (ns.length : Int) := by omega
    have hjn : j < ns.length := by omega
    have HRZ := Lib.hid (refsize_ok a cap ns hl j (by omega) w2 (HN.out.after b2.out))
    have hSV : Hid ((sz, er) = match skip 1 ((opsOf ns).drop j) with | some n => ((n : Int), (0 : Int)) | none => ((0 : Int), 13)) := by
      show _ = _
      rw [← HSV.out]
      unfold sizeV
      rw [if_neg hr]
      exact rfl
    clear hr
    cases hq : skip 1 ((opsOf ns).drop j) with
    | none =>
      rw [hq] at HRZ hSV
      obtain ⟨rfl, rfl⟩ : sz = 0 ∧ er = 13 := by
        have := hSV.out
        cases this
        exact ⟨rfl, rfl⟩
      obtain rfl : pv = [] := by
        rw [← HPV.out]
        unfold placesV
        rw [HSV.out]
        rfl
      rw [show (((none : Option Nat).getD 0 : Nat) : Int) = 0 from rfl] at HRZ
      clear hq hSV
      go_wp2_with fail
      with_reducible refine HRZ.out.mono ?_
      rintro e w3 ⟨rfl, hb3⟩
      have b3 : Hid (Below W.heap.size W w3) := b2.out.trans (hb3.mono b2.out.size)
      have HAA := Lib.hid (HA.out w3 (HS.out.after b3.out))
      go_wp2_with fail
      with_reducible refine HAA.out.mono ?_
      rintro e w7 ⟨rfl, hb7⟩
      go_wp2_with fail
      go_ret
      exact ⟨rfl, b3.out.trans (hb7.mono b3.out.size)⟩
    | some q =>
      rw [hq] at HRZ hSV
      obtain ⟨rfl, rfl⟩ : sz = q ∧ er = 0 := by
        have := hSV.out
        cases this
        exact ⟨rfl, rfl⟩
      have hq1 := (skip_le _ _ _ hq).1
      have hqb : (((q : Nat) : Int) == 0) = false := by simp; omega
      rw [show (((some q : Option Nat).getD 0 : Nat) : Int) = (q : Int) from rfl] at HRZ
      have HQ := Lib.hid hq
      have hqx : (q : Int) ≠ 0 := by omega
      clear hq hSV
      go_wp2_with fail
      with_reducible refine HRZ.out.mono ?_
      rintro e w3 ⟨rfl, hb3⟩
      have b3 : Hid (Below W.heap.size W w3) := b2.out.trans (hb3.mono b2.out.size)
      have HRB := Lib.hid (refbelow_ok a cap ns hl j q HQ.out w3 (HN.out.after b3.out))
      have HLA3 := Lib.hid (HLA.out.after hb3)
      go_wp2_with fail
      with_reducible refine HRB.out.mono ?_
      rintro e w4 ⟨v, rfl, hown, hb4⟩
      have b4 : Hid (Below W.heap.size W w4) := b3.out.trans (hb4.mono b3.out.size)
      have hpl : Hid (pv = (kidsL ns j (mny (Nd.at ns j).op)).map (·.2)) := by
        show _ = _
        rw [← HPV.out]
        unfold placesV
        rw [HSV.out]
        rfl
      have hown' : w4.ownsRow w3.heap.size 3 1 v pv.length (pv.map (Value.int .i64)) := by
        rw [hpl.out, List.length_map, List.map_map, kidsL_len]
        exact hown
      obtain ⟨ra, rcap, rfl, _, _, hra⟩ := ints_own hown' rfl
      have HI := Lib.hid (ints_ok la ra lcap rcap pv pv (by rw [hpl.out, List.length_map, kidsL_len]; have := (mny_int (Nd.at ns j).op).2; omega) w4 (HLA3.out.after hb4) hra)
      rw [decide_eq_true rfl] at HI
      clear hown hown' hra hb4 hb3 HRB HRZ
      go_wp2_with fail
      with_reducible refine HI.out.mono ?_
      rintro e w5 ⟨rfl, hb5⟩
      have b5 : Hid (Below W.heap.size W w5) := b4.out.trans (hb5.mono b4.out.size)
      have HAA := Lib.hid (HA.out w5 (HS.out.after b5.out))
      go_wp2_with fail
      with_reducible refine HAA.out.mono ?_
      rintro e w7 ⟨rfl, hb7⟩
      go_wp2_with fail
      go_ret
      exact ⟨rfl, b5.out.trans (hb7.mono b5.out.size)⟩

set_option maxRecDepth 100000 in
theorem open_TermSizes {H : Type} (enc : TypeId × Value → H) (base : Nat) (W : World) (hS : ShapesAt W) (v0 : Value) (d0 : DataW H) (p0 : List MemPlace) (h0 : DataW.Trod enc Tryd.prog W 0 (fun _ => true) true 22 v0 d0 p0) (ok0 : Value.okWide Tryd.prog W .any base 22 v0)
    (i : Int) (hi : -9223372036854775808 ≤ i ∧ i ≤ 9223372036854775807) :
    Calls Tryd.prog 3 #[v0, .int .i64 i] W fun e W' => e = .returned (.bool true) ∧ Below W.heap.size W W' := by
  obtain ⟨a, cap, ns, rfl, q1, q2, _⟩ := open_nodes h0 ok0
  exact walk_TermSizes W hS a cap ns q1 q2 i hi

end Go.Proofs.YtglnnllodoljkaaDoor
