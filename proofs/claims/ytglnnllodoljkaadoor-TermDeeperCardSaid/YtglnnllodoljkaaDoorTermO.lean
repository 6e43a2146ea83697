/- Package term: Check; the chapter's Ints, sort. -/
import Derived.Test.YtglnnllodoljkaaDoorTermN
import Derived.Test.YtglnnllodoljkaaDoorTermF
namespace Go.Proofs.YtglnnllodoljkaaDoor
open Go.RowKit Go.Shelf
set_option linter.unusedVariables false
set_option linter.unusedSimpArgs false

/-- What Check answers. -/
def chkV (ns : List Nd) : Int := if (ofV ns).2 = 0 ∧ (ofV ns).1 ≠ 2 then 14 else (ofV ns).2
set_option maxHeartbeats 1000000 in
set_option maxRecDepth 100000 in
theorem check_ok (a : Option Addr) (cap : Nat) (ns : List Nd) (hl : ns.length ≤ 1000000) (hI : NdsIn ns) (w : World) (hS : ShapesAt w) (hN : NdsAt w a ns) :
    Calls Tryd.prog 19 #[.slice a ns.length cap] w fun e w' => e = .returned (.int .i64 (chkV ns)) ∧ Below w.heap.size w w' := by
  have HO := Lib.hid (of_term_ok a cap ns hl hI w hS hN)
  clear hS hN hI
  have HV : Hid (chkV ns = if (ofV ns).2 = 0 ∧ (ofV ns).1 ≠ 2 then 14 else (ofV ns).2) := rfl
  obtain ⟨V, hV⟩ : ∃ V, chkV ns = V := ⟨_, rfl⟩
  obtain ⟨so, hso⟩ : ∃ s, (ofV ns).1 = s := ⟨_, rfl⟩
  obtain ⟨er, her⟩ : ∃ s, (ofV ns).2 = s := ⟨_, rfl⟩
  rw [hso, her] at HO HV
  rw [hV] at HV ⊢
  clear hV hso her
  go_enter Tryd.func19, Tryd.ntmps19
  go_wp2_with fail
  with_reducible refine HO.out.mono ?_
  rintro e w1 ⟨rfl, hb1⟩
  by_cases h0 : er = 0
  · subst h0
    by_cases h2 : so = 2
    · subst h2
      rw [if_neg (by simp)] at HV
      go_wp2_with fail
      go_ret
      exact ⟨by rw [HV.out]; rfl, hb1⟩
    · rw [if_pos ⟨rfl, h2⟩] at HV
      go_wp2_with fail
      go_ret
      exact ⟨by rw [HV.out]; rfl, hb1⟩
  · rw [if_neg (fun h => h0 h.1)] at HV
    go_wp2_with fail
    go_ret
    exact ⟨by rw [HV.out]; rfl, hb1⟩

def intRow (xs : List Int) (i : Nat) : List Value := [.int .i64 (xs.getD i 0)]
def IntsAt (w : World) (a : Option Addr) (xs : List Int) : Prop := RowsAt w a xs.length 1 (intRow xs)
theorem intRow_flat (xs : List Int) : flatF (intRow xs) xs.length = xs.map (Value.int .i64) := by
  have : ∀ n, n ≤ xs.length → flatF (intRow xs) n = (xs.take n).map (Value.int .i64) := by
    intro n
    induction n with
    | zero => intro _; rfl
    | succ n ih =>
      intro hn
      rw [flatF, ih (by omega), List.take_succ_eq_append_getElem (by omega), List.map_append]
      simp [intRow, List.getD_eq_getElem?_getD, List.getElem?_eq_getElem (show n < xs.length by omega)]
  rw [this _ (Nat.le_refl _), List.take_length]
theorem IntsAt.after {w w' : World} {a : Option Addr} {xs : List Int} (h : IntsAt w a xs) (hb : Below w.heap.size w w') : IntsAt w' a xs := RowsAt.after h hb
theorem ints_own {w : World} {base n : Nat} {v : Value} {xs : List Int} (h : w.ownsRow base 3 1 v n (xs.map (Value.int .i64))) (hn : n = xs.length) :
    ∃ a cap, v = .slice a xs.length cap ∧ (a = none → xs.length = 0 ∧ cap = 0) ∧ (∀ x, a = some x → base ≤ x.block ∧ x.block < w.heap.size) ∧ IntsAt w a xs := by
  subst hn
  rw [← intRow_flat] at h
  obtain ⟨a, cap, h1, h2, _, _, h3, h4⟩ := owned_rows (f := intRow xs) (size := 1) (fun _ => rfl) h
  exact ⟨a, cap, h1, h2, h3, h4⟩
theorem getD_ext {xs ys : List Int} (hl : xs.length = ys.length) (h : ∀ i, i < xs.length → xs.getD i 0 = ys.getD i 0) : xs = ys := by
  refine List.ext_getElem hl fun i h1 h2 => ?_
  have := h i h1
  simpa [List.getD_eq_getElem?_getD, List.getElem?_eq_getElem h1, List.getElem?_eq_getElem h2] using this

set_option maxHeartbeats 1000000 in
set_option maxRecDepth 100000 in
theorem ints_ok (a b : Option Addr) (ca cb : Nat) (xs ys : List Int) (hlx : xs.length ≤ 1000000) (w : World) (hx : IntsAt w a xs) (hy : IntsAt w b ys) :
    Calls Tryd.prog 14 #[.slice a xs.length ca, .slice b ys.length cb] w fun e w' => e = .returned (.bool (decide (xs = ys))) ∧ Below w.heap.size w w' := by
  have HX := Lib.hid hx
  have HY := Lib.hid hy
  clear hx hy
  by_cases hl : xs.length = ys.length
  · have hlb : ((xs.length : Int) != (ys.length : Int)) = false := by simp [hl]
    have HL := Lib.hid hl
    clear hl
    go_enter Tryd.func14, Tryd.ntmps14
    go_wp2_with fail
    go_loopw [5] (fun c wr => ∃ k : Nat, k ≤ xs.length ∧ c = .int .i64 (k : Int) ∧ Hid (∀ j, j < k → xs.getD j 0 = ys.getD j 0) ∧ Below w.heap.size w wr) (fun c _ => xs.length - (intOf c).toNat)
    case atStart => exact ⟨0, by omega, by simp, (fun j hj => by omega), Below.refl _ _⟩
    case round =>
      obtain ⟨k, hk, rfl, HK, hbl⟩ := hrel
      by_cases hlt : k < xs.length
      · have hlt' : (k : Int) < (xs.length : Int) := by omega
        have hlt2 : (k : Int) < (ys.length : Int) := by have := HL.out; omega
        obtain ⟨bx, ox, rfl, hcx⟩ := (HX.out.after hbl) (by omega)
        obtain ⟨by_, oy, rfl, hcy⟩ := (HY.out.after hbl) (by omega)
        have cx : wr.cell? ⟨bx, ox + k, none⟩ = some (.int .i64 (xs.getD k 0)) := by have := hcx k hlt 0 _ rfl; rwa [Nat.mul_one, Nat.add_zero] at this
        have cy : wr.cell? ⟨by_, oy + k, none⟩ = some (.int .i64 (ys.getD k 0)) := by have := hcy k (by omega) 0 _ rfl; rwa [Nat.mul_one, Nat.add_zero] at this
        clear hcx hcy
        obtain ⟨x, hxx⟩ : ∃ x, xs.getD k 0 = x := ⟨_, rfl⟩
        obtain ⟨y, hyy⟩ : ∃ x, ys.getD k 0 = x := ⟨_, rfl⟩
        rw [hxx] at cx
        rw [hyy] at cy
        have HXX := Lib.hid hxx
        have HYY := Lib.hid hyy
        have HLT := Lib.hid hlt
        have hwk : IntKind.i64.wrap ((k : Int) + 1) = (k : Int) + 1 := IntWalk.i64_in _ (by omega)
        clear hxx hyy hlt
        by_cases hxy : x = y
        · have hxb : (x != y) = false := by simp [hxy]
          have HXY := Lib.hid hxy
          clear hxy
          go_wp2_with (go_quiet (fail))
          go_roundw
          case rel =>
            refine ⟨k + 1, by have := HLT.out; omega, by go_num, (fun j hj => ?_), below_drewN hbl _⟩
            rcases Nat.lt_or_ge j k with h | h
            · exact HK.out j h
            · obtain rfl : j = k := by omega
              rw [HXX.out, HYY.out]
              exact HXY.out
          case measure => have := HLT.out; simp [intOf]; omega
        · have hxb : (x != y) = true := by simp [hxy]
          have HXY := Lib.hid hxy
          clear hxy
          go_wp2_with (go_quiet (fail))
          go_ret
          refine ⟨?_, below_drewN hbl _⟩
          rw [decide_eq_false (fun h => HXY.out (by rw [← HXX.out, ← HYY.out, h]))]
          rfl
      · obtain rfl : k = xs.length := by omega
        go_wp2_with fail
        go_ret
        rw [decide_eq_true (getD_ext HL.out HK.out)]
        exact ⟨rfl, hbl⟩
  · have hlb : ((xs.length : Int) != (ys.length : Int)) = true := by simp; omega
    have HL := Lib.hid hl
    clear hl
    go_enter Tryd.func14, Tryd.ntmps14
    go_wp2_with fail
    go_ret
    rw [decide_eq_false (fun h => HL.out (by rw [h]))]
    exact ⟨rfl, Below.refl _ _⟩

end Go.Proofs.YtglnnllodoljkaaDoor
