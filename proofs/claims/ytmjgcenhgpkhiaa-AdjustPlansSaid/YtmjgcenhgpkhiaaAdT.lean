/- The document's Check. -/
import Derived.Test.YtmjgcenhgpkhiaaAdS
namespace Go.Proofs.Ytmjgcenhgpkhiaa
open Go.RowKit Go.Sort Go.Shelf
set_option linter.unusedVariables false
set_option linter.unusedSimpArgs false

/-- Nothing is told twice among the first of a list, and of one more nothing up to some. -/
def Apart (l : List Lv) (i k : Nat) : Prop := ∀ q, q < k → ∀ x y, l[i]? = some x → l[q]? = some y → x.no ≠ y.no ∧ x.ky ≠ y.ky
theorem apart_nodup {l : List Lv} (h : ∀ i, i < l.length → Apart l i i) : (l.map Lv.ky).Nodup ∧ (l.map Lv.no).Nodup := by
  constructor
  · refine List.pairwise_iff_getElem.2 fun i j hi hj hij => ?_
    rw [List.length_map] at hi hj
    rw [List.getElem_map, List.getElem_map]
    exact fun e => (h j hj i hij l[j] l[i] (List.getElem?_eq_getElem hj) (List.getElem?_eq_getElem hi)).2 e.symm
  · refine List.pairwise_iff_getElem.2 fun i j hi hj hij => ?_
    rw [List.length_map] at hi hj
    rw [List.getElem_map, List.getElem_map]
    exact fun e => (h j hj i hij l[j] l[i] (List.getElem?_eq_getElem hj) (List.getElem?_eq_getElem hi)).1 e.symm
theorem not_nodup {β : Type} (l : List Lv) (f : Lv → β) {i k : Nat} (hik : k < i) {x y : Lv} (hx : l[i]? = some x) (hy : l[k]? = some y) (e : f x = f y) : ¬ (l.map f).Nodup := fun hn => by
  obtain ⟨hi, e1⟩ := List.getElem?_eq_some_iff.1 hx
  obtain ⟨hk, e2⟩ := List.getElem?_eq_some_iff.1 hy
  have := List.pairwise_iff_getElem.1 hn k i (by rw [List.length_map]; exact hk) (by rw [List.length_map]; exact hi) hik
  rw [List.getElem_map, List.getElem_map, e1, e2] at this
  exact this e.symm
set_option maxHeartbeats 4000000 in
set_option maxRecDepth 100000 in
theorem refck_ok (a : Option Addr) (cap : Nat) (l : List Lv) (w : World) (h : SlG w 4 encL a cap l) (hl : l.length ≤ 1000) :
    Calls Try.prog 8 #[.slice a l.length cap] w (CkEnd w l) := by
  have H := Lib.hid h
  have HB0 : Hid (Below w.heap.size w w) := Below.refl _ _
  clear h
  go_enter Try.func8, Try.ntmps8
  go_wp2_with fail
  go_loopw [3] (fun i wr => ∃ j : Nat, j ≤ l.length ∧ i = .int .i64 j ∧ Hid (∀ x ∈ l.take j, 0 ≤ x.no) ∧ Hid (Below w.heap.size w wr)) (fun i _ => l.length - (intOf i).toNat)
  case atStart => exact ⟨0, by omega, rfl, (fun x hx => by cases hx), HB0⟩
  case round =>
    obtain ⟨j, hj, rfl, HP, HB⟩ := hrel
    by_cases hlt : j < l.length
    · obtain ⟨x, hy⟩ : ∃ x, l[j]'hlt = x := ⟨_, rfl⟩
      have hx : l[j]? = some x := by rw [← hy]; exact List.getElem?_eq_getElem hlt
      have hS := H.out.after HB.out
      rcases hS.sh with rfl | ⟨b, o, rfl, hbl⟩
      · exact absurd hlt (by simp)
      obtain ⟨xn, xd, xc, xa⟩ := x
      have i1 : (0 : Int) ≤ (j : Int) := by omega
      have i2 : (j : Int) < (l.length : Int) := by omega
      have p0 : wr.cell? ⟨b, o + j * 4, none⟩ = some (.int .i64 xn) := RecsAt.cell hS.recs rfl hlt hx (j := 0) rfl
      have hTk : l.take (j + 1) = l.take j ++ [⟨xn, xd, xc, xa⟩] := by rw [List.take_succ_eq_append_getElem hlt, hy]
      by_cases hn : xn < 0
      · have d1 : decide (xn < 0) = true := decide_eq_true hn
        have hE : ckE l = 10 := by
          unfold ckE
          rw [if_pos ⟨⟨xn, xd, xc, xa⟩, by rw [← hy]; exact List.getElem_mem _, hn⟩]
        have HF : Hid (CkEnd w l (.returned (.int .i64 10)) wr) := ⟨by rw [hE], HB.out⟩
        clear hx hy hS hn hE hTk
        go_wp2_with fail
        go_ret
        exact HF.out
      · have d1 : decide (xn < 0) = false := decide_eq_false hn
        have HN : Hid (∀ x ∈ l.take (j + 1), 0 ≤ x.no) := fun x hx' => by
          rw [hTk] at hx'
          rcases List.mem_append.1 hx' with h | h
          · exact HP.out x h
          · rw [List.mem_singleton.1 h]; exact Int.not_lt.1 hn
        clear hx hy hS hn hTk
        go_wp2_with fail
        go_roundw
        case rel => exact ⟨j + 1, by omega, by go_num, HN.out, HB.out⟩
        case measure => simp [intOf]; omega
    · obtain rfl : j = l.length := by omega
      rw [List.take_length] at HP
      have HB1 := Lib.hid HB.out
      clear HB
      go_wp2_with fail
      go_loopw [4] (fun i wr => ∃ j : Nat, j ≤ l.length ∧ i = .int .i64 j ∧ Hid (∀ x ∈ l.take j, x.a ≠ 0) ∧ Hid (Below w.heap.size w wr)) (fun i _ => l.length - (intOf i).toNat)
      case atStart => exact ⟨0, by omega, rfl, (fun x hx => by cases hx), HB1⟩
      case round =>
        obtain ⟨j, hj, rfl, HZ, HB⟩ := hrel
        by_cases hlt : j < l.length
        · obtain ⟨x, hy⟩ : ∃ x, l[j]'hlt = x := ⟨_, rfl⟩
          have hx : l[j]? = some x := by rw [← hy]; exact List.getElem?_eq_getElem hlt
          have hS := H.out.after HB.out
          rcases hS.sh with rfl | ⟨b, o, rfl, hbl⟩
          · exact absurd hlt (by simp)
          obtain ⟨xn, xd, xc, xa⟩ := x
          have i1 : (0 : Int) ≤ (j : Int) := by omega
          have i2 : (j : Int) < (l.length : Int) := by omega
          have p3 : wr.cell? ⟨b, o + j * 4 + 3, none⟩ = some (.int .i64 xa) := RecsAt.cell hS.recs rfl hlt hx (j := 3) rfl
          have hTk : l.take (j + 1) = l.take j ++ [⟨xn, xd, xc, xa⟩] := by rw [List.take_succ_eq_append_getElem hlt, hy]
          by_cases hn : xa = 0
          · have d1 : (xa == 0) = true := by rw [beq_iff_eq]; exact hn
            have hE : ckE l = 13 := by
              unfold ckE
              rw [if_neg (fun ⟨z, hz, hn⟩ => absurd hn (Int.not_lt.2 (HP.out z hz))), if_pos ⟨⟨xn, xd, xc, xa⟩, by rw [← hy]; exact List.getElem_mem _, hn⟩]
            have HF : Hid (CkEnd w l (.returned (.int .i64 13)) wr) := ⟨by rw [hE], HB.out⟩
            clear hx hy hS hn hE hTk
            go_wp2_with fail
            go_ret
            exact HF.out
          · have d1 : (xa == 0) = false := by rw [beq_eq_false_iff_ne]; exact hn
            have HN : Hid (∀ x ∈ l.take (j + 1), x.a ≠ 0) := fun x hx' => by
              rw [hTk] at hx'
              rcases List.mem_append.1 hx' with h | h
              · exact HZ.out x h
              · rw [List.mem_singleton.1 h]; exact hn
            clear hx hy hS hn hTk
            go_wp2_with fail
            go_roundw
            case rel => exact ⟨j + 1, by omega, by go_num, HN.out, HB.out⟩
            case measure => simp [intOf]; omega
        · obtain rfl : j = l.length := by omega
          rw [List.take_length] at HZ
          have HB2 := Lib.hid HB.out
          clear HB
          go_wp2_with fail
          go_loopw [5] (fun i wr => ∃ j : Nat, j ≤ l.length ∧ i = .int .i64 j ∧ Hid (∀ i, i < j → Apart l i i) ∧ Hid (Below w.heap.size w wr)) (fun i _ => l.length - (intOf i).toNat)
          case atStart => exact ⟨0, by omega, rfl, (fun i hi => absurd hi (by omega)), HB2⟩
          case round =>
            obtain ⟨j, hj, rfl, HA, HB⟩ := hrel
            by_cases hlt : j < l.length
            · have HB3 := Lib.hid HB.out
              have HLt := Lib.hid hlt
              have hlt' : decide ((j : Int) < (l.length : Int)) = true := decide_eq_true (by omega)
              have hlt'' : decide (j < l.length) = true := decide_eq_true hlt
              clear HB
              go_wp2_with fail
              go_loopw [6] (fun i wr => ∃ k : Nat, k ≤ j ∧ i = .int .i64 k ∧ Hid (Apart l j k) ∧ Hid (Below w.heap.size w wr)) (fun i _ => j - (intOf i).toNat)
              case atStart => exact ⟨0, by omega, rfl, (fun i hi => absurd hi (by omega)), HB3⟩
              case round =>
                obtain ⟨k, hk, rfl, HK, HB⟩ := hrel
                by_cases hkj : k < j
                · obtain ⟨x, hy⟩ : ∃ x, l[j]'hlt = x := ⟨_, rfl⟩
                  have hx : l[j]? = some x := by rw [← hy]; exact List.getElem?_eq_getElem hlt
                  have hS := H.out.after HB.out
                  rcases hS.sh with rfl | ⟨b, o, rfl, hbl⟩
                  · exact absurd hlt (by simp)
                  obtain ⟨xn, xd, xc, xa⟩ := x
                  have i1 : (0 : Int) ≤ (j : Int) := by omega
                  have i2 : (j : Int) < (l.length : Int) := by omega
                  have p0 : wr.cell? ⟨b, o + j * 4, none⟩ = some (.int .i64 xn) := RecsAt.cell hS.recs rfl hlt hx (j := 0) rfl
                  have p1 : wr.cell? ⟨b, o + j * 4 + 1, none⟩ = some (.int .i64 xd) := RecsAt.cell hS.recs rfl hlt hx (j := 1) rfl
                  have p2 : wr.cell? ⟨b, o + j * 4 + 2, none⟩ = some (.int .i64 xc) := RecsAt.cell hS.recs rfl hlt hx (j := 2) rfl
                  have hlk : k < l.length := by omega
                  have hx' := List.getElem?_eq_getElem hlk
                  obtain ⟨y, hy'⟩ : ∃ y, l[k] = y := ⟨_, rfl⟩
                  rw [hy'] at hx'
                  obtain ⟨yn, yd, yc, ya⟩ := y
                  have q0 : wr.cell? ⟨b, o + k * 4, none⟩ = some (.int .i64 yn) := RecsAt.cell hS.recs rfl hlk hx' (j := 0) rfl
                  have q1 : wr.cell? ⟨b, o + k * 4 + 1, none⟩ = some (.int .i64 yd) := RecsAt.cell hS.recs rfl hlk hx' (j := 1) rfl
                  have q2 : wr.cell? ⟨b, o + k * 4 + 2, none⟩ = some (.int .i64 yc) := RecsAt.cell hS.recs rfl hlk hx' (j := 2) rfl
                  have i3 : (0 : Int) ≤ (k : Int) := by omega
                  have i4 : (k : Int) < (l.length : Int) := by omega
                  have hbad : (xn = yn ∨ (xd = yd ∧ xc = yc)) → ckE l = 17 := fun hc => by
                    unfold ckE
                    rw [if_neg (fun ⟨z, hz, hn⟩ => absurd hn (Int.not_lt.2 (HP.out z hz))), if_neg (fun ⟨z, hz, hn⟩ => HZ.out z hz hn), if_neg]
                    rintro ⟨g1, g2⟩
                    rcases hc with rfl | ⟨rfl, rfl⟩
                    · exact not_nodup l Lv.no hkj hx hx' rfl g2
                    · exact not_nodup l Lv.ky hkj hx hx' rfl g1
                  have hgood : xn ≠ yn → ¬ (xd = yd ∧ xc = yc) → Apart l j (k + 1) := fun g1 g2 q hq x' y' e1 e2 => by
                    rcases Nat.lt_or_ge q k with h | h
                    · exact HK.out q h x' y' e1 e2
                    · obtain rfl : q = k := by omega
                      rw [hx] at e1
                      rw [hx'] at e2
                      cases e1; cases e2
                      exact ⟨g1, fun e => g2 (by simpa [Lv.ky] using e)⟩
                  by_cases h1 : xn = yn
                  · have HF : Hid (∀ n, CkEnd w l (.returned (.int .i64 17)) (wr.drewN n)) := fun n => ⟨by rw [hbad (.inl h1)], HB.out.trans (below_draws _ n)⟩
                    have d1 : (xn == yn) = true := by rw [beq_iff_eq]; exact h1
                    clear hx hy hS hx' hy' hbad hgood h1
                    go_wp2_with (go_quiet (fail))
                    go_ret
                    exact HF.out _
                  have d1 : (xn == yn) = false := by rw [beq_eq_false_iff_ne]; exact h1
                  by_cases h2 : xd = yd
                  · have d2 : (xd == yd) = true := by rw [beq_iff_eq]; exact h2
                    by_cases h3 : xc = yc
                    · have HF : Hid (∀ n, CkEnd w l (.returned (.int .i64 17)) (wr.drewN n)) := fun n => ⟨by rw [hbad (.inr ⟨h2, h3⟩)], HB.out.trans (below_draws _ n)⟩
                      have d3 : (xc == yc) = true := by rw [beq_iff_eq]; exact h3
                      clear hx hy hS hx' hy' hbad hgood h1 h2 h3
                      go_wp2_with (go_quiet (fail))
                      go_ret
                      exact HF.out _
                    · have d3 : (xc == yc) = false := by rw [beq_eq_false_iff_ne]; exact h3
                      have HG := Lib.hid (hgood h1 (fun h => h3 h.2))
                      clear hx hy hS hx' hy' hbad hgood h1 h2 h3
                      go_wp2_with (go_quiet (fail))
                      go_roundw
                      case rel => exact ⟨k + 1, by omega, by go_num, HG, HB.out.trans (below_draws _ _)⟩
                      case measure => simp [intOf]; omega
                  · have d2 : (xd == yd) = false := by rw [beq_eq_false_iff_ne]; exact h2
                    have HG := Lib.hid (hgood h1 (fun h => h2 h.1))
                    clear hx hy hS hx' hy' hbad hgood h1 h2
                    go_wp2_with (go_quiet (fail))
                    go_roundw
                    case rel => exact ⟨k + 1, by omega, by go_num, HG, HB.out.trans (below_draws _ _)⟩
                    case measure => simp [intOf]; omega
                · obtain rfl : k = j := by omega
                  have HG : Hid (∀ i, i < k + 1 → Apart l i i) := fun i hi => by
                    rcases Nat.lt_or_ge i k with h | h
                    · exact HA.out i h
                    · obtain rfl : i = k := by omega
                      exact HK.out
                  go_wp2_with fail
                  go_roundw
                  case rel => exact ⟨k + 1, by omega, by go_num, HG, HB.out⟩
                  case measure => simp [intOf]; omega
            · obtain rfl : j = l.length := by omega
              have hE : ckE l = 0 := by
                obtain ⟨g1, g2⟩ := apart_nodup HA.out
                unfold ckE
                rw [if_neg (fun ⟨z, hz, hn⟩ => absurd hn (Int.not_lt.2 (HP.out z hz))), if_neg (fun ⟨z, hz, hn⟩ => HZ.out z hz hn), if_pos ⟨g1, g2⟩]
              have HF : Hid (CkEnd w l (.returned (.int .i64 0)) wr) := ⟨by rw [hE], HB.out⟩
              clear hE
              go_wp2_with fail
              go_ret
              exact HF.out

end Go.Proofs.Ytmjgcenhgpkhiaa
