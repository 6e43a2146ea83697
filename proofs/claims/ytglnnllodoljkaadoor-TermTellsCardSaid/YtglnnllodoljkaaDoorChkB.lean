/- The document's answer for terms (chattelref05): Depth. -/
import Derived.Test.YtglnnllodoljkaaDoorChkA
import Derived.Test.YtglnnllodoljkaaDoorTermH
import Derived.Test.YtglnnllodoljkaaDoorTermK
import Derived.Test.YtglnnllodoljkaaDoorTermU
import Derived.Test.YtglnnllodoljkaaDoorTermV
namespace Go.Proofs.YtglnnllodoljkaaDoor
open Go.RowKit
set_option linter.unusedVariables false
set_option linter.unusedSimpArgs false

/-- The greatest depth of the first k terms below a node. -/
def mxN (ns : List Nd) (m i k : Nat) : Nat := (List.range k).foldl (fun n k => max n (deepF ns m (place ns i k))) 0
theorem mxN_succ (ns : List Nd) (m i k : Nat) : mxN ns m i (k + 1) = max (mxN ns m i k) (deepF ns m (place ns i k)) := by
  unfold mxN
  rw [List.range_succ, List.foldl_append]
  rfl
theorem mxN_deep (ns : List Nd) (m i : Nat) : deepF ns (m + 1) i = mxN ns m i (mny (Nd.at ns i).op) + 1 := rfl
theorem mxN_le (ns : List Nd) (m i : Nat) : ∀ k, mxN ns m i k ≤ m + 1
  | 0 => by simp [mxN]
  | k + 1 => by rw [mxN_succ]; have := mxN_le ns m i k; have := (deepF_le ns m (place ns i k)).2; omega

/-- What a call owns, of places. -/
theorem places_own {w : World} {base i M : Nat} {v : Value} {ns : List Nd} (h : w.ownsRow base 3 1 v M (plc ns i M)) :
    ∃ a cap, v = .slice a M cap ∧ RowAt w a M (fun k => .int .i64 (place ns i k : Int)) := by
  obtain ⟨a, cap, rfl, _, _, _, _, h4⟩ := owned_parts h
  rw [Nat.mul_one] at h4
  refine ⟨a, cap, rfl, h4.congr fun k hk => ?_⟩
  unfold plc kidsL
  rw [List.getD_eq_getElem?_getD, List.map_map, List.getElem?_map, List.getElem?_range hk]
  rfl

set_option maxHeartbeats 4000000 in
set_option maxRecDepth 100000 in
theorem refdepth_ok (a : Option Addr) (cap : Nat) (ns : List Nd) (hl : ns.length ≤ 1000000) : ∀ (m i q : Nat), ns.length - i ≤ m → m ≤ 1000000 → skip 1 ((opsOf ns).drop i) = some q → ∀ w : World, NdsAt w a ns →
    Calls Tryd.prog 31 #[.slice a ns.length cap, .int .i64 i] w fun e w' => e = .returned (.int .i64 (deepF ns m i : Int)) ∧ Below w.heap.size w w'
  | 0, i, q, hm, _, hq, _, _ => by
    rw [skip_over (by omega)] at hq
    cases hq
  | m + 1, i, q, hm, hm1, hq, w, hN => by
    have hi : i < ns.length := by
      rcases Nat.lt_or_ge i ns.length with h | h
      · exact h
      · rw [skip_over h] at hq; cases hq
    have HIH := Lib.hid (refdepth_ok a cap ns hl m)
    have HPI := Lib.hid (fun k hk => place_in (k := k) hi hq hk)
    have HB := Lib.hid (refbelow_ok a cap ns hl i q hq w hN)
    unfold RefBelowEnd at HB
    have HN := Lib.hid hN
    have HD := Lib.hid (mxN_deep ns m i)
    have HS := Lib.hid (mxN_succ ns m i)
    have HL := Lib.hid (mxN_le ns m i)
    have hM4 := (mny_int (Nd.at ns i).op).2
    obtain ⟨M, hM⟩ : ∃ M, mny (Nd.at ns i).op = M := ⟨_, rfl⟩
    rw [hM] at HB HPI HD hM4
    obtain ⟨D, hD⟩ : ∃ D, deepF ns (m + 1) i = D := ⟨_, rfl⟩
    rw [hD] at HD ⊢
    have HDD : Hid (ns.length - (i + 1) ≤ m) := by show _ ≤ _; omega
    clear hN hq hM hD
    go_enter Tryd.func31, Tryd.ntmps31
    go_wp2_with fail
    with_reducible refine HB.out.mono ?_
    rintro e w1 ⟨v, rfl, hown, hb1⟩
    obtain ⟨la, lcap, rfl, hrow⟩ := places_own hown
    have HR := Lib.hid hrow
    have B1 : Hid (Below w.heap.size w w1) := hb1
    clear hown hb1 hrow HB
    go_wp2_with fail
    go_loopw [5, 7] (fun n c wr => ∃ k : Nat, k ≤ M ∧ c = .int .i64 (k : Int) ∧ n = .int .i64 (mxN ns m i k : Int) ∧ Hid (Below w.heap.size w wr) ∧ Hid (RowAt wr la M (fun k => .int .i64 (place ns i k : Int)))) (fun _ c _ => M - (intOf c).toNat)
    case atStart => exact ⟨0, by omega, rfl, rfl, B1, HR⟩
    case round =>
      obtain ⟨k, hk, rfl, rfl, HBL, HRW⟩ := hrel
      have hmx := HL.out k
      by_cases hlt : k < M
      · obtain ⟨b, o, rfl, hc⟩ := HRW.out (by omega)
        have c0 : wr.cell? ⟨b, o + k, none⟩ = some (.int .i64 (place ns i k : Int)) := hc k hlt
        obtain ⟨p1, p2, q', p3, _, _⟩ := HPI.out k hlt
        have hd2 := (deepF_le ns m (place ns i k)).2
        have HC := Lib.hid (HIH.out (place ns i k) q' (by omega) (by omega) p3 wr (HN.out.after HBL.out))
        have HS1 := Lib.hid (HS.out k)
        obtain ⟨p, hp⟩ : ∃ p, place ns i k = p := ⟨_, rfl⟩
        rw [hp] at c0 HC HS1 hd2
        obtain ⟨d, hd⟩ : ∃ d, deepF ns m p = d := ⟨_, rfl⟩
        rw [hd] at HC HS1 hd2
        obtain ⟨x, hx⟩ : ∃ x, mxN ns m i k = x := ⟨_, rfl⟩
        rw [hx] at HS1 hmx ⊢
        have hlt' : (k : Int) < (M : Int) := by omega
        clear hc p1 p2 p3 hp hd hx
        go_wp2_with fail
        with_reducible refine HC.out.mono ?_
        rintro e w2 ⟨rfl, hb2⟩
        have B2 : Hid (Below w.heap.size w w2) := HBL.out.trans (hb2.mono HBL.out.size)
        have R2 := Lib.hid (HRW.out.after hb2)
        clear hb2 c0
        go_wp2_with fail
        refine ⟨⟨k + 1, by omega, by go_num, by rw [HS1.out]; congr 1; omega, B2, R2⟩, by simp [intOf]; omega⟩
      · obtain rfl : k = M := by omega
        have hw1 : (mxN ns m i k : Int) ≤ 1000001 := by omega
        obtain ⟨x, hx⟩ : ∃ x, mxN ns m i k = x := ⟨_, rfl⟩
        rw [hx] at HD hw1 ⊢
        clear hx hmx
        go_wp2_with fail
        go_ret
        exact ⟨by rw [HD.out]; rfl, HBL.out⟩

end Go.Proofs.YtglnnllodoljkaaDoor
