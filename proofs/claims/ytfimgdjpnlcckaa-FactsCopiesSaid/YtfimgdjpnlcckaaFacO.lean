/- The document's Get and First. -/
import Derived.Test.YtfimgdjpnlcckaaFacN
import Derived.BigQuiet
import Derived.Deep.QuietTactic
namespace Go.Proofs.Ytfimgdjpnlcckaa
open Go.RowKit
set_option linter.unusedVariables false
set_option linter.unusedSimpArgs false

theorem find_first {α : Type} {p : α → Bool} : ∀ {l : List α} {j : Nat} {y : α}, (∀ x ∈ l.take j, p x = false) → l[j]? = some y → p y = true → l.find? p = some y
  | [], j, y, _, h, _ => by simp at h
  | x :: l, 0, y, _, h, hp => by
    simp only [List.getElem?_cons_zero, Option.some.injEq] at h
    subst h
    rw [List.find?_cons, hp]
  | x :: l, j + 1, y, hn, h, hp => by
    rw [List.find?_cons, hn x (by simp)]
    exact find_first (fun z hz => hn z (by rw [List.take_succ_cons]; exact List.mem_cons_of_mem _ hz)) (by simpa using h) hp
theorem find_none {α : Type} {p : α → Bool} {l : List α} (h : ∀ x ∈ l, p x = false) : l.find? p = none := by
  rw [List.find?_eq_none]
  intro x hx
  rw [h x hx]
  simp
theorem take_all {α : Type} {P : α → Prop} {l : List α} {j : Nat} {y : α} (h : ∀ x ∈ l.take j, P x) (hy : l[j]? = some y) (hP : P y) : ∀ x ∈ l.take (j + 1), P x := by
  obtain ⟨hj, rfl⟩ := List.getElem?_eq_some_iff.1 hy
  rw [List.take_succ_eq_append_getElem hj]
  intro x hx
  rcases List.mem_append.1 hx with hx | hx
  · exact h x hx
  · obtain rfl := List.mem_singleton.1 hx
    exact hP

theorem set5 {w0 : World} {B : Nat} {T : TypeId} {c0 c1 c2 c3 c4 : Value} (h : Blk w0 B #[c0, c1, c2, c3, c4] T) (v0 v1 v2 v3 v4 : Value) :
    Blk (((((w0.setCell ⟨B, 0, none⟩ v0).setCell ⟨B, 1, none⟩ v1).setCell ⟨B, 2, none⟩ v2).setCell ⟨B, 3, none⟩ v3).setCell ⟨B, 4, none⟩ v4) B #[v0, v1, v2, v3, v4] T :=
  ((((h.set 0 v0).set 1 v1).set 2 v2).set 3 v3).set 4 v4
theorem below5 {N : Nat} {w w0 : World} {B : Nat} (h : Below N w w0) (hB : N ≤ B) (v0 v1 v2 v3 v4 : Value) :
    Below N w (((((w0.setCell ⟨B, 0, none⟩ v0).setCell ⟨B, 1, none⟩ v1).setCell ⟨B, 2, none⟩ v2).setCell ⟨B, 3, none⟩ v3).setCell ⟨B, 4, none⟩ v4) :=
  ((((h.setCell (p := ⟨B, 0, none⟩) hB v0).setCell (p := ⟨B, 1, none⟩) hB v1).setCell (p := ⟨B, 2, none⟩) hB v2).setCell (p := ⟨B, 3, none⟩) hB v3).setCell (p := ⟨B, 4, none⟩) hB v4
def getV (o : Option Fc) : Value := .tuple #[.agg (encF (o.getD ⟨0, 0, 0, 0, 0⟩)).toArray, .bool o.isSome]
def GetEnd (w : World) (o : Option Fc) (e : Ending) (w' : World) : Prop := e = .returned (getV o) ∧ Below w.heap.size w w'
set_option maxHeartbeats 8000000 in
set_option maxRecDepth 100000 in
theorem get_ok (a : Option Addr) (cap : Nat) (l : List Fc) (key day : Int) (hl : l.length ≤ 1000) (w : World) (h : RecsAt w a 5 encF l) :
    Calls Try.prog 21 #[.slice a l.length cap, .int .i64 key, .int .i64 day] w (GetEnd w (getK Fc.ky l (key, day))) := by
  obtain ⟨w0, hw0⟩ : ∃ w0, w.alloc (.cells #[.int .i64 0, .int .i64 0, .int .i64 0, .int .i64 0, .int .i64 0] 43) = w0 := ⟨_, rfl⟩
  have hb0 : Below w.heap.size w w0 := by rw [← hw0]; exact (Below.refl _ _).alloc (Nat.le_refl _) _
  have k0 : Blk w0 w.heap.size #[.int .i64 0, .int .i64 0, .int .i64 0, .int .i64 0, .int .i64 0] 43 := by rw [← hw0]; exact Blk.new _ _ _
  have KX := Lib.hid k0
  have HR := Lib.hid (h.after hb0)
  have HB0 := Lib.hid hb0
  clear h hb0 k0
  go_enter Try.func21, Try.ntmps21
  go_wp2_with fail
  clear hw0
  go_loop [8] (fun i => ∃ j : Nat, j ≤ l.length ∧ i = .int .i64 j ∧ Hid (∀ x ∈ l.take j, x.ky ≠ (key, day))) (fun i => l.length - (intOf i).toNat)
  case atStart => exact ⟨0, by omega, rfl, fun x hx => by simp at hx⟩
  case round =>
    obtain ⟨j, hj, rfl, HN⟩ := hrel
    by_cases hlt : j < l.length
    · have hx := List.getElem?_eq_getElem hlt
      obtain ⟨y, hy⟩ : ∃ y, l[j] = y := ⟨_, rfl⟩
      rw [hy] at hx
      have HX := Lib.hid hx
      have hR := HR.out
      obtain ⟨b, o, rfl, _⟩ := hR (by omega)
      obtain ⟨yk, yd, yn, ym, yp⟩ := y
      have y0 : w0.cell? ⟨b, o + j * 5, none⟩ = some (.int .i64 yk) := RecsAt.cell hR rfl hlt hx (j := 0) rfl
      have y1 : w0.cell? ⟨b, o + j * 5 + 1, none⟩ = some (.int .i64 yd) := RecsAt.cell hR rfl hlt hx (j := 1) rfl
      have y2 : w0.cell? ⟨b, o + j * 5 + 2, none⟩ = some (.int .i64 yn) := RecsAt.cell hR rfl hlt hx (j := 2) rfl
      have y3 : w0.cell? ⟨b, o + j * 5 + 3, none⟩ = some (.int .i64 ym) := RecsAt.cell hR rfl hlt hx (j := 3) rfl
      have y4 : w0.cell? ⟨b, o + j * 5 + 4, none⟩ = some (.int .i64 yp) := RecsAt.cell hR rfl hlt hx (j := 4) rfl
      clear hx hR hy
      by_cases h1 : yk = key
      · subst h1
        by_cases h2 : yd = day
        · subst h2
          have HG : Hid (getK Fc.ky l (yk, yd) = some ⟨yk, yd, yn, ym, yp⟩) := find_first (fun x hx => decide_eq_false (HN.out x hx)) HX.out (decide_eq_true rfl)
          have b0 : w0.cell? ⟨w.heap.size, 0, none⟩ = some (.int .i64 0) := (KX.out).cell 0 rfl
          have b1 : w0.cell? ⟨w.heap.size, 1, none⟩ = some (.int .i64 0) := (KX.out).cell 1 rfl
          have b2 : w0.cell? ⟨w.heap.size, 2, none⟩ = some (.int .i64 0) := (KX.out).cell 2 rfl
          have b3 : w0.cell? ⟨w.heap.size, 3, none⟩ = some (.int .i64 0) := (KX.out).cell 3 rfl
          have b4 : w0.cell? ⟨w.heap.size, 4, none⟩ = some (.int .i64 0) := (KX.out).cell 4 rfl
          have f0 : w0.frozen? ⟨w.heap.size, 0, none⟩ = false := (KX.out).free 0
          have f1 : w0.frozen? ⟨w.heap.size, 1, none⟩ = false := (KX.out).free 1
          have f2 : w0.frozen? ⟨w.heap.size, 2, none⟩ = false := (KX.out).free 2
          have f3 : w0.frozen? ⟨w.heap.size, 3, none⟩ = false := (KX.out).free 3
          have f4 : w0.frozen? ⟨w.heap.size, 4, none⟩ = false := (KX.out).free 4
          go_wp2_with fail
          have K5 := set5 KX.out (.int .i64 yk) (.int .i64 yd) (.int .i64 yn) (.int .i64 ym) (.int .i64 yp)
          have e0 := K5.cell 0 rfl
          have e1 := K5.cell 1 rfl
          have e2 := K5.cell 2 rfl
          have e3 := K5.cell 3 rfl
          have e4 := K5.cell 4 rfl
          refine bodyPost_ret (v := .tuple #[.agg #[.int .i64 yk, .int .i64 yd, .int .i64 yn, .int .i64 ym, .int .i64 yp], .bool true]) (by simp [results, Try.results21, go_sem, e0, e1, e2, e3, e4]) rfl ?_
          rw [HG.out]
          exact ⟨rfl, below5 HB0.out (Nat.le_refl _) _ _ _ _ _⟩
        · have h2' : (yd == day) = false := by simpa using h2
          have HN' : Hid (∀ x ∈ l.take (j + 1), x.ky ≠ (yk, day)) := take_all HN.out HX.out (by unfold Fc.ky; simp [h2])
          clear h2
          go_wp2_with fail
          go_round
          case rel => exact ⟨j + 1, by omega, by go_num, HN'⟩
          case measure => simp [intOf]; omega
      · have h1' : (yk == key) = false := by simpa using h1
        have HN' : Hid (∀ x ∈ l.take (j + 1), x.ky ≠ (key, day)) := take_all HN.out HX.out (by unfold Fc.ky; simp [h1])
        clear h1
        go_wp2_with fail
        go_round
        case rel => exact ⟨j + 1, by omega, by go_num, HN'⟩
        case measure => simp [intOf]; omega
    · obtain rfl : j = l.length := by omega
      have HG : Hid (getK Fc.ky l (key, day) = none) := find_none fun x hx => decide_eq_false (HN.out x (by rw [List.take_length]; exact hx))
      have b0 : w0.cell? ⟨w.heap.size, 0, none⟩ = some (.int .i64 0) := (KX.out).cell 0 rfl
      have b1 : w0.cell? ⟨w.heap.size, 1, none⟩ = some (.int .i64 0) := (KX.out).cell 1 rfl
      have b2 : w0.cell? ⟨w.heap.size, 2, none⟩ = some (.int .i64 0) := (KX.out).cell 2 rfl
      have b3 : w0.cell? ⟨w.heap.size, 3, none⟩ = some (.int .i64 0) := (KX.out).cell 3 rfl
      have b4 : w0.cell? ⟨w.heap.size, 4, none⟩ = some (.int .i64 0) := (KX.out).cell 4 rfl
      have f0 : w0.frozen? ⟨w.heap.size, 0, none⟩ = false := (KX.out).free 0
      have f1 : w0.frozen? ⟨w.heap.size, 1, none⟩ = false := (KX.out).free 1
      have f2 : w0.frozen? ⟨w.heap.size, 2, none⟩ = false := (KX.out).free 2
      have f3 : w0.frozen? ⟨w.heap.size, 3, none⟩ = false := (KX.out).free 3
      have f4 : w0.frozen? ⟨w.heap.size, 4, none⟩ = false := (KX.out).free 4
      go_wp2_with fail
      have K5 := set5 KX.out (.int .i64 0) (.int .i64 0) (.int .i64 0) (.int .i64 0) (.int .i64 0)
      have e0 := K5.cell 0 rfl
      have e1 := K5.cell 1 rfl
      have e2 := K5.cell 2 rfl
      have e3 := K5.cell 3 rfl
      have e4 := K5.cell 4 rfl
      refine bodyPost_ret (v := .tuple #[.agg #[.int .i64 0, .int .i64 0, .int .i64 0, .int .i64 0, .int .i64 0], .bool false]) (by simp [results, Try.results21, go_sem, e0, e1, e2, e3, e4]) rfl ?_
      rw [HG.out]
      exact ⟨rfl, below5 HB0.out (Nat.le_refl _) _ _ _ _ _⟩

def dayV (o : Option Int) : Value := .tuple #[.int .i64 (o.getD 0), .bool o.isSome]
def FirstEnd (w : World) (o : Option Int) (e : Ending) (w' : World) : Prop := e = .returned (dayV o) ∧ Below w.heap.size w w'
set_option maxHeartbeats 8000000 in
set_option maxRecDepth 100000 in
theorem reffirst_ok (a : Option Addr) (cap : Nat) (l : List Fc) (key fr to pick : Int) (hl : l.length ≤ 1000) (w : World) (h : RecsAt w a 5 encF l) :
    Calls Try.prog 22 #[.slice a l.length cap, .int .i64 key, .int .i64 fr, .int .i64 to, .int .i64 pick] w (FirstEnd w ((firstF l key fr to pick).map Fc.d)) := by
  have HR := Lib.hid h
  clear h
  go_enter Try.func22, Try.ntmps22
  go_wp2_with fail
  go_loop [12] (fun i => ∃ j : Nat, j ≤ l.length ∧ i = .int .i64 j ∧ Hid (∀ x ∈ l.take j, decide (x.k = key ∧ fr ≤ x.d ∧ x.d ≤ to ∧ x.p = pick) = false)) (fun i => l.length - (intOf i).toNat)
  case atStart => exact ⟨0, by omega, rfl, fun x hx => by simp at hx⟩
  case round =>
    obtain ⟨j, hj, rfl, HN⟩ := hrel
    by_cases hlt : j < l.length
    · have hx := List.getElem?_eq_getElem hlt
      obtain ⟨y, hy⟩ : ∃ y, l[j] = y := ⟨_, rfl⟩
      rw [hy] at hx
      have HX := Lib.hid hx
      have hR := HR.out
      obtain ⟨b, o, rfl, _⟩ := hR (by omega)
      obtain ⟨yk, yd, yn, ym, yp⟩ := y
      have y0 : w.cell? ⟨b, o + j * 5, none⟩ = some (.int .i64 yk) := RecsAt.cell hR rfl hlt hx (j := 0) rfl
      have y1 : w.cell? ⟨b, o + j * 5 + 1, none⟩ = some (.int .i64 yd) := RecsAt.cell hR rfl hlt hx (j := 1) rfl
      have y2 : w.cell? ⟨b, o + j * 5 + 2, none⟩ = some (.int .i64 yn) := RecsAt.cell hR rfl hlt hx (j := 2) rfl
      have y3 : w.cell? ⟨b, o + j * 5 + 3, none⟩ = some (.int .i64 ym) := RecsAt.cell hR rfl hlt hx (j := 3) rfl
      have y4 : w.cell? ⟨b, o + j * 5 + 4, none⟩ = some (.int .i64 yp) := RecsAt.cell hR rfl hlt hx (j := 4) rfl
      clear hx hR hy
      by_cases h1 : yk = key
      · subst h1
        by_cases h2 : fr ≤ yd
        · have h2' : decide (fr ≤ yd) = true := decide_eq_true h2
          by_cases h3 : yd ≤ to
          · have h3' : decide (yd ≤ to) = true := decide_eq_true h3
            by_cases h4 : yp = pick
            · subst h4
              have HG : Hid (firstF l yk fr to yp = some ⟨yk, yd, yn, ym, yp⟩) := find_first HN.out HX.out (decide_eq_true ⟨rfl, h2, h3, rfl⟩)
              clear h2 h3
              go_wp2_with fail
              go_ret2
              rw [HG.out]
              exact ⟨rfl, Below.refl _ _⟩
            · have h4' : (yp == pick) = false := by simpa using h4
              have HN' : Hid (∀ x ∈ l.take (j + 1), decide (x.k = yk ∧ fr ≤ x.d ∧ x.d ≤ to ∧ x.p = pick) = false) := take_all HN.out HX.out (by simp [h4])
              clear h2 h3 h4
              go_wp2_with fail
              go_round
              case rel => exact ⟨j + 1, by omega, by go_num, HN'⟩
              case measure => simp [intOf]; omega
          · have h3' : decide (yd ≤ to) = false := decide_eq_false h3
            have HN' : Hid (∀ x ∈ l.take (j + 1), decide (x.k = yk ∧ fr ≤ x.d ∧ x.d ≤ to ∧ x.p = pick) = false) := take_all HN.out HX.out (by simp [h3])
            clear h2 h3
            go_wp2_with fail
            go_round
            case rel => exact ⟨j + 1, by omega, by go_num, HN'⟩
            case measure => simp [intOf]; omega
        · have h2' : decide (fr ≤ yd) = false := decide_eq_false h2
          have HN' : Hid (∀ x ∈ l.take (j + 1), decide (x.k = yk ∧ fr ≤ x.d ∧ x.d ≤ to ∧ x.p = pick) = false) := take_all HN.out HX.out (by simp [h2])
          clear h2
          go_wp2_with fail
          go_round
          case rel => exact ⟨j + 1, by omega, by go_num, HN'⟩
          case measure => simp [intOf]; omega
      · have h1' : (yk == key) = false := by simpa using h1
        have HN' : Hid (∀ x ∈ l.take (j + 1), decide (x.k = key ∧ fr ≤ x.d ∧ x.d ≤ to ∧ x.p = pick) = false) := take_all HN.out HX.out (by simp [h1])
        clear h1
        go_wp2_with fail
        go_round
        case rel => exact ⟨j + 1, by omega, by go_num, HN'⟩
        case measure => simp [intOf]; omega
    · obtain rfl : j = l.length := by omega
      have HG : Hid (firstF l key fr to pick = none) := find_none fun x hx => HN.out x (by rw [List.take_length]; exact hx)
      go_wp2_with fail
      go_ret2
      rw [HG.out]
      exact ⟨rfl, Below.refl _ _⟩

end Go.Proofs.Ytfimgdjpnlcckaa
