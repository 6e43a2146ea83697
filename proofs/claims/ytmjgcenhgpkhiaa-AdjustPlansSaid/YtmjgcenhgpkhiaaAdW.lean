/- The document's Plan. -/
import Derived.Test.YtmjgcenhgpkhiaaAdV
namespace Go.Proofs.Ytmjgcenhgpkhiaa
open Go.RowKit Go.Sort Go.Shelf
set_option linter.unusedVariables false
set_option linter.unusedSimpArgs false

theorem rpA_len (w : List Fl) (l : List Lv) : (rpA w l).length ≤ l.length := by
  induction l using rev_ind with
  | nil => simp [rpA]
  | snoc l x ih =>
    rw [rpA_snoc]
    split
    · have := putK_len (ky := Cg.ky) (rpA w l) ⟨x.no, x.d, x.c, x.a, wantAt w x.ky⟩
      simp only [List.length_append, List.length_singleton]; omega
    · simp only [List.length_append, List.length_singleton]; omega
theorem rpB_len (l : List Lv) (A : List Cg) (w : List Fl) : (rpB l A w).length ≤ A.length + w.length := by
  induction w using rev_ind with
  | nil => simp [rpB]
  | snoc w y ih =>
    rw [rpB_snoc]
    split
    · simp only [List.length_append, List.length_singleton]; omega
    · have := putK_len (ky := Cg.ky) (rpB l A w) ⟨-1, y.d, y.c, 0, y.a⟩
      simp only [List.length_append, List.length_singleton]; omega
theorem wantAt_snoc {pre : List Fl} {y : Fl} (k : KD) (h : ∀ z ∈ pre, z.ky ≠ y.ky) : wantAt (pre ++ [y]) k = if y.ky = k then y.a else wantAt pre k := by
  unfold wantAt
  rw [List.find?_append]
  by_cases e : y.ky = k
  · rw [if_pos e, List.find?_eq_none.2 (fun z hz => by simpa using fun e' => h z hz (e'.trans e.symm)), Option.none_or]
    simp [e]
  · rw [if_neg e]
    cases hf : pre.find? (fun x => decide (x.ky = k)) with
    | none => simp [e]
    | some z => rfl
theorem take_keys {f : List Fl} (hr : Rising Fl.ky f) {j : Nat} (hlt : j < f.length) {y : Fl} (hy : f[j]? = some y) : ∀ z ∈ f.take j, z.ky ≠ y.ky := fun z hz e => by
  obtain ⟨i, hi, e1⟩ := List.getElem_of_mem hz
  rw [List.length_take] at hi
  rw [List.getElem_take] at e1
  have := List.pairwise_iff_getElem.1 hr i j (by omega) hlt (by omega)
  rw [e1, (List.getElem?_eq_some_iff.1 hy).2, e] at this
  exact ltK_irrefl _ this
theorem take_lives {l : List Lv} (hn : (l.map Lv.ky).Nodup) {j : Nat} (hlt : j < l.length) {y : Lv} (hy : l[j]? = some y) : ∀ z ∈ l.take j, z.ky ≠ y.ky := fun z hz e => by
  obtain ⟨i, hi, e1⟩ := List.getElem_of_mem hz
  rw [List.length_take] at hi
  rw [List.getElem_take] at e1
  exact not_nodup l Lv.ky (k := i) (i := j) (by omega) hy (List.getElem?_eq_some_iff.2 ⟨by omega, e1⟩) e.symm hn
def hasK (l : List Lv) (k : KD) : Bool := l.any fun x => decide (k = x.ky)
theorem hasK_iff {l : List Lv} {k : KD} : hasK l k = true ↔ ∃ x ∈ l, k = x.ky := by simp [hasK]
theorem hasK_snoc (l : List Lv) (x : Lv) (k : KD) : hasK (l ++ [x]) k = (hasK l k || decide (k = x.ky)) := by simp [hasK]
def WhereA (w : World) (l : List Lv) (f : List Fl) (i : Nat) (v : Value) (wr : World) : Prop := ∃ a c, v = .slice a (rpA f (l.take i)).length c ∧ SlAt wr 5 encG a c (rpA f (l.take i)) ∧ Below w.heap.size w wr
def WhereB (w : World) (l : List Lv) (f : List Fl) (i : Nat) (v : Value) (wr : World) : Prop := ∃ a c, v = .slice a (rpB l (rpA f l) (f.take i)).length c ∧ SlAt wr 5 encG a c (rpB l (rpA f l) (f.take i)) ∧ Below w.heap.size w wr
theorem rpA_nil (f : List Fl) : rpA f [] = [] := rfl
theorem rpB_nil (l : List Lv) (A : List Cg) : rpB l A [] = A := rfl
set_option maxHeartbeats 8000000 in
set_option maxRecDepth 100000 in
theorem refplan_ok (a : Option Addr) (cap : Nat) (l : List Lv) (a' : Option Addr) (cap' : Nat) (f : List Fl) (w : World) (h : SlG w 4 encL a cap l) (h' : SlG w 3 encW a' cap' f) (hl : l.length ≤ 400) (hf : f.length ≤ 400) (hn : (l.map Lv.ky).Nodup) (hr : Rising Fl.ky f) :
    Calls Try.prog 15 #[.slice a l.length cap, .slice a' f.length cap'] w (PutG w (rpB l (rpA f l) f)) := by
  have H := Lib.hid h
  have H' := Lib.hid h'
  have HNd := Lib.hid hn
  have HRi := Lib.hid hr
  have HA0 : Hid (WhereA w l f 0 (.slice none 0 0) w) := ⟨none, 0, rfl, SlAt.nil _, Below.refl _ _⟩
  clear h h' hn hr
  go_enter Try.func15, Try.ntmps15
  go_wp2_with fail
  go_loopw [5, 6] (fun v i wr => ∃ j : Nat, j ≤ l.length ∧ i = .int .i64 j ∧ Hid (WhereA w l f j v wr)) (fun _ i _ => l.length - (intOf i).toNat)
  case atStart => exact ⟨0, by omega, rfl, HA0⟩
  case round =>
    obtain ⟨j, hj, rfl, HQ⟩ := hrel
    by_cases hlt : j < l.length
    · obtain ⟨oa, oc, rfl, hO, hB⟩ := HQ.out
      obtain ⟨x, hy⟩ : ∃ x, l[j]'hlt = x := ⟨_, rfl⟩
      have hx : l[j]? = some x := by rw [← hy]; exact List.getElem?_eq_getElem hlt
      rcases (H.out.after hB).sh with rfl | ⟨b, o, rfl, hbl⟩
      · exact absurd hlt (by simp)
      obtain ⟨xn, xd, xc, xa⟩ := x
      have HX : Hid (∀ W, Below w.heap.size w W → W.cell? ⟨b, o + j * 4, none⟩ = some (.int .i64 xn) ∧ W.cell? ⟨b, o + j * 4 + 1, none⟩ = some (.int .i64 xd) ∧ W.cell? ⟨b, o + j * 4 + 2, none⟩ = some (.int .i64 xc) ∧ W.cell? ⟨b, o + j * 4 + 3, none⟩ = some (.int .i64 xa)) := fun W hW => ⟨RecsAt.cell (H.out.after hW).recs rfl hlt hx (j := 0) rfl, RecsAt.cell (H.out.after hW).recs rfl hlt hx (j := 1) rfl, RecsAt.cell (H.out.after hW).recs rfl hlt hx (j := 2) rfl, RecsAt.cell (H.out.after hW).recs rfl hlt hx (j := 3) rfl⟩
      have i1 : (0 : Int) ≤ (j : Int) := by omega
      have i2 : (j : Int) < (l.length : Int) := by omega
      have HO := Lib.hid hO
      have HB := Lib.hid hB
      have hTk : l.take (j + 1) = l.take j ++ [⟨xn, xd, xc, xa⟩] := by rw [List.take_succ_eq_append_getElem hlt, hy]
      have hsn := rpA_snoc f (l.take j) ⟨xn, xd, xc, xa⟩
      rw [← hTk] at hsn
      have hnew : ∀ z ∈ rpA f (l.take j), z.ky ≠ (xd, xc) := fun z hz => by
        obtain ⟨z', hz', rfl, _⟩ := ((rpA_ok f (l.take j) (HNd.out.sublist ((List.take_sublist _ _).map _))).2 z).1 hz
        exact take_lives HNd.out hlt hx z' hz'
      have hlen : (rpA f (l.take j)).length ≤ 400 := Nat.le_trans (rpA_len _ _) (by rw [List.length_take]; omega)
      have HSn := Lib.hid hsn
      have HNw := Lib.hid hnew
      obtain ⟨A, hA⟩ : ∃ A, rpA f (l.take j) = A := ⟨_, rfl⟩
      rw [hA] at HSn HNw HO hlen ⊢
      have g1 : decide ((j : Int) < (l.length : Int)) = true := decide_eq_true (by omega)
      have g2 : decide (j < l.length) = true := decide_eq_true hlt
      have HLt := Lib.hid hlt
      clear hy hx hO hB hTk hsn hnew hA HQ hlt
      go_wp2_with fail
      go_loopw [7, 8] (fun v i wr => ∃ k : Nat, k ≤ f.length ∧ i = .int .i64 k ∧ v = .int .i64 (wantAt (f.take k) (xd, xc)) ∧ Hid (SlAt wr 5 encG oa oc A) ∧ Hid (Below w.heap.size w wr)) (fun _ i _ => f.length - (intOf i).toNat)
      case atStart => exact ⟨0, by omega, rfl, rfl, HO, HB⟩
      case round =>
        obtain ⟨k, hk, rfl, rfl, HO, HB⟩ := hrel
        by_cases hkf : k < f.length
        · obtain ⟨y, hy'⟩ : ∃ y, f[k]'hkf = y := ⟨_, rfl⟩
          have hx' : f[k]? = some y := by rw [← hy']; exact List.getElem?_eq_getElem hkf
          rcases (H'.out.after HB.out).sh with rfl | ⟨b', o', rfl, hbl'⟩
          · exact absurd hkf (by simp)
          obtain ⟨yd, yc, ya⟩ := y
          have HY : Hid (∀ W, Below w.heap.size w W → W.cell? ⟨b', o' + k * 3, none⟩ = some (.int .i64 yd) ∧ W.cell? ⟨b', o' + k * 3 + 1, none⟩ = some (.int .i64 yc) ∧ W.cell? ⟨b', o' + k * 3 + 2, none⟩ = some (.int .i64 ya)) := fun W hW => ⟨RecsAt.cell (H'.out.after hW).recs rfl hkf hx' (j := 0) rfl, RecsAt.cell (H'.out.after hW).recs rfl hkf hx' (j := 1) rfl, RecsAt.cell (H'.out.after hW).recs rfl hkf hx' (j := 2) rfl⟩
          have i3 : (0 : Int) ≤ (k : Int) := by omega
          have i4 : (k : Int) < (f.length : Int) := by omega
          have hTk : f.take (k + 1) = f.take k ++ [⟨yd, yc, ya⟩] := by rw [List.take_succ_eq_append_getElem hkf, hy']
          have hws : wantAt (f.take (k + 1)) (xd, xc) = if (yd, yc) = (xd, xc) then ya else wantAt (f.take k) (xd, xc) := by rw [hTk]; exact wantAt_snoc (xd, xc) (take_keys HRi.out hkf hx')
          obtain ⟨p0, p1, p2, p3⟩ := HX.out wr HB.out
          obtain ⟨q0, q1, q2⟩ := HY.out wr HB.out
          have HO2 : Hid (∀ n, SlAt (wr.drewN n) 5 encG oa oc A) := fun n => HO.out.after (below_draws _ n)
          have HB2 : Hid (∀ n, Below w.heap.size w (wr.drewN n)) := fun n => HB.out.trans (below_draws _ n)
          have HWs := Lib.hid hws
          obtain ⟨N, hN⟩ : ∃ N, wantAt (f.take k) (xd, xc) = N := ⟨_, rfl⟩
          rw [hN] at HWs ⊢
          clear hy' hx' hTk hws hN HO HB HX HY
          by_cases h1 : yd = xd
          · by_cases h2 : yc = xc
            · have d1 : (yd == xd) = true := by rw [beq_iff_eq]; exact h1
              have d2 : (yc == xc) = true := by rw [beq_iff_eq]; exact h2
              have HE : Hid (wantAt (f.take (k + 1)) (xd, xc) = ya) := by show _ = _; rw [HWs.out, if_pos (by rw [h1, h2])]
              clear h1 h2
              go_wp2_with (go_quiet (fail))
              go_roundw
              case rel => exact ⟨k + 1, by omega, by go_num, by rw [HE.out], HO2.out _, HB2.out _⟩
              case measure => simp [intOf]; omega
            · have d1 : (yd == xd) = true := by rw [beq_iff_eq]; exact h1
              have d2 : (yc == xc) = false := by rw [beq_eq_false_iff_ne]; exact h2
              have HE : Hid (wantAt (f.take (k + 1)) (xd, xc) = N) := by show _ = _; rw [HWs.out, if_neg (fun e => h2 (Prod.mk.inj e).2)]
              clear h1 h2
              go_wp2_with (go_quiet (fail))
              go_roundw
              case rel => exact ⟨k + 1, by omega, by go_num, by rw [HE.out], HO2.out _, HB2.out _⟩
              case measure => simp [intOf]; omega
          · have d1 : (yd == xd) = false := by rw [beq_eq_false_iff_ne]; exact h1
            have HE : Hid (wantAt (f.take (k + 1)) (xd, xc) = N) := by show _ = _; rw [HWs.out, if_neg (fun e => h1 (Prod.mk.inj e).1)]
            clear h1
            go_wp2_with (go_quiet (fail))
            go_roundw
            case rel => exact ⟨k + 1, by omega, by go_num, by rw [HE.out], HO2.out _, HB2.out _⟩
            case measure => simp [intOf]; omega
        · obtain rfl : k = f.length := by omega
          rw [List.take_length]
          obtain ⟨p0, p1, p2, p3⟩ := HX.out wr HB.out
          obtain ⟨N, hN⟩ : ∃ N, wantAt f (xd, xc) = N := ⟨_, rfl⟩
          have hsn := HSn.out
          rw [show (⟨xn, xd, xc, xa⟩ : Lv).ky = (xd, xc) from rfl, hN] at hsn
          rw [hN]
          clear hN HSn
          have hlt := HLt.out
          by_cases he : N = xa
          · have d1 : (N == xa) = true := by rw [beq_iff_eq]; exact he
            rw [if_neg (by simp [he])] at hsn
            have HR : Hid (WhereA w l f (j + 1) (.slice oa A.length oc) wr) := ⟨oa, oc, by rw [hsn], by rw [hsn]; exact HO.out, HB.out⟩
            clear hsn he HO HB
            go_wp2_with fail
            go_roundw
            case rel => exact ⟨j + 1, by omega, by go_num, HR⟩
            case measure => simp [intOf]; omega
          · have d1 : (N == xa) = false := by rw [beq_eq_false_iff_ne]; exact he
            rw [if_pos he] at hsn
            have HSn := Lib.hid hsn
            clear hsn he
            go_wp2_with fail
            refine wp_region_final (fun W => W.cell? ⟨b, o + j * 4, none⟩ = some (.int .i64 xn) ∧ W.cell? ⟨b, o + j * 4 + 1, none⟩ = some (.int .i64 xd) ∧ W.cell? ⟨b, o + j * 4 + 2, none⟩ = some (.int .i64 xc) ∧ W.cell? ⟨b, o + j * 4 + 3, none⟩ = some (.int .i64 xa)) 24 (by kernel_rfl) ?_
            have bd : Below wr.heap.size wr wr.drew := (Below.refl _ _).drew
            obtain ⟨wq, hwq⟩ : ∃ W, wr.drew = W := ⟨_, rfl⟩
            rw [hwq] at bd ⊢
            clear hwq
            have zr := HB.out.size
            have hBq := HB.out.trans (bd.mono zr)
            have hSd := HX.out wq hBq
            have hc := put_ok oa oc A ⟨xn, xd, xc, xa, N⟩ wq (HO.out.after bd) (by omega) HNw.out
            dsimp only [encG] at hc
            have HC := Lib.hid hc
            clear hc
            refine fT_take (i := 0) (v := ?_) rfl (by kernel_rfl) (fun _ _ _ h => h) (by rfl) hSd ?_ ?_
            rotate_left 1
            · intro wS hSw
              obtain ⟨s0, s1, s2, s3⟩ := hSw
              go_simp
              try with_reducible rfl
            try simp only [Act.put, List.setIfInBounds_toArray, List.set_cons_zero, List.set_cons_succ]
            refine fT_take (i := 1) (v := ?_) rfl (by kernel_rfl) (fun _ _ _ h => h) (by rfl) hSd ?_ ?_
            rotate_left 1
            · intro wS hSw
              obtain ⟨s0, s1, s2, s3⟩ := hSw
              go_simp
              try with_reducible rfl
            try simp only [Act.put, List.setIfInBounds_toArray, List.set_cons_zero, List.set_cons_succ]
            refine fT_take (i := 2) (v := ?_) rfl (by kernel_rfl) (fun _ _ _ h => h) (by rfl) hSd ?_ ?_
            rotate_left 1
            · intro wS hSw
              obtain ⟨s0, s1, s2, s3⟩ := hSw
              go_simp
              try with_reducible rfl
            try simp only [Act.put, List.setIfInBounds_toArray, List.set_cons_zero, List.set_cons_succ]
            refine fT_take (i := 3) (v := ?_) rfl (by kernel_rfl) (fun _ _ _ h => h) (by rfl) hSd ?_ ?_
            rotate_left 1
            · intro wS hSw
              obtain ⟨s0, s1, s2, s3⟩ := hSw
              go_simp
              try with_reducible rfl
            try simp only [Act.put, List.setIfInBounds_toArray, List.set_cons_zero, List.set_cons_succ]
            refine fT_take (i := 4) (v := ?_) rfl (by kernel_rfl) (fun _ _ _ h => h) (by rfl) hSd ?_ ?_
            rotate_left 1
            · intro wS hSw
              obtain ⟨s0, s1, s2, s3⟩ := hSw
              go_simp
              try with_reducible rfl
            try simp only [Act.put, List.setIfInBounds_toArray, List.set_cons_zero, List.set_cons_succ]
            refine fT_take (i := 5) (v := ?_) rfl (by kernel_rfl) (fun _ _ _ h => h) (by rfl) hSd ?_ ?_
            rotate_left 1
            · intro wS hSw
              obtain ⟨s0, s1, s2, s3⟩ := hSw
              go_simp
              try with_reducible rfl
            try simp only [Act.put, List.setIfInBounds_toArray, List.set_cons_zero, List.set_cons_succ]
            refine fT_take (i := 6) (v := ?_) rfl (by kernel_rfl) (fun _ _ _ h => h) (by rfl) hSd ?_ ?_
            rotate_left 1
            · intro wS hSw
              obtain ⟨s0, s1, s2, s3⟩ := hSw
              go_simp
              try with_reducible rfl
            try simp only [Act.put, List.setIfInBounds_toArray, List.set_cons_zero, List.set_cons_succ]
            refine fT_take (i := 7) (v := ?_) rfl (by kernel_rfl) (fun _ _ _ h => h) (by rfl) hSd ?_ ?_
            rotate_left 1
            · intro wS hSw
              obtain ⟨s0, s1, s2, s3⟩ := hSw
              go_simp
              try with_reducible rfl
            try simp only [Act.put, List.setIfInBounds_toArray, List.set_cons_zero, List.set_cons_succ]
            refine fT_take (i := 8) (v := ?_) rfl (by kernel_rfl) (fun _ _ _ h => h) (by rfl) hSd ?_ ?_
            rotate_left 1
            · intro wS hSw
              obtain ⟨s0, s1, s2, s3⟩ := hSw
              go_simp
              try with_reducible rfl
            try simp only [Act.put, List.setIfInBounds_toArray, List.set_cons_zero, List.set_cons_succ]
            refine fT_take (i := 9) (v := ?_) rfl (by kernel_rfl) (fun _ _ _ h => h) (by rfl) hSd ?_ ?_
            rotate_left 1
            · intro wS hSw
              obtain ⟨s0, s1, s2, s3⟩ := hSw
              go_simp
              try with_reducible rfl
            try simp only [Act.put, List.setIfInBounds_toArray, List.set_cons_zero, List.set_cons_succ]
            refine fT_take (i := 10) (v := ?_) rfl (by kernel_rfl) (fun _ _ _ h => h) (by rfl) hSd ?_ ?_
            rotate_left 1
            · intro wS hSw
              obtain ⟨s0, s1, s2, s3⟩ := hSw
              go_simp
              try with_reducible rfl
            try simp only [Act.put, List.setIfInBounds_toArray, List.set_cons_zero, List.set_cons_succ]
            refine fT_take (i := 11) (v := ?_) rfl (by kernel_rfl) (fun _ _ _ h => h) (by rfl) hSd ?_ ?_
            rotate_left 1
            · intro wS hSw
              obtain ⟨s0, s1, s2, s3⟩ := hSw
              go_simp
              try with_reducible rfl
            try simp only [Act.put, List.setIfInBounds_toArray, List.set_cons_zero, List.set_cons_succ]
            refine fT_take (i := 12) (v := ?_) rfl (by kernel_rfl) (fun _ _ _ h => h) (by rfl) hSd ?_ ?_
            rotate_left 1
            · intro wS hSw
              obtain ⟨s0, s1, s2, s3⟩ := hSw
              go_simp
              try with_reducible rfl
            try simp only [Act.put, List.setIfInBounds_toArray, List.set_cons_zero, List.set_cons_succ]
            refine fT_take (i := 13) (v := ?_) rfl (by kernel_rfl) (fun _ _ _ h => h) (by rfl) hSd ?_ ?_
            rotate_left 1
            · intro wS hSw
              obtain ⟨s0, s1, s2, s3⟩ := hSw
              go_simp
              try with_reducible rfl
            try simp only [Act.put, List.setIfInBounds_toArray, List.set_cons_zero, List.set_cons_succ]
            refine fT_take (i := 14) (v := ?_) rfl (by kernel_rfl) (fun _ _ _ h => h) (by rfl) hSd ?_ ?_
            rotate_left 1
            · intro wS hSw
              obtain ⟨s0, s1, s2, s3⟩ := hSw
              go_simp
              try with_reducible rfl
            try simp only [Act.put, List.setIfInBounds_toArray, List.set_cons_zero, List.set_cons_succ]
            refine fT_take (i := 15) (v := ?_) rfl (by kernel_rfl) (fun _ _ _ h => h) (by rfl) hSd ?_ ?_
            rotate_left 1
            · intro wS hSw
              obtain ⟨s0, s1, s2, s3⟩ := hSw
              go_simp
              try with_reducible rfl
            try simp only [Act.put, List.setIfInBounds_toArray, List.set_cons_zero, List.set_cons_succ]
            refine fT_take (i := 16) (v := ?_) rfl (by kernel_rfl) (fun _ _ _ h => h) (by rfl) hSd ?_ ?_
            rotate_left 1
            · intro wS hSw
              obtain ⟨s0, s1, s2, s3⟩ := hSw
              go_simp
              try with_reducible rfl
            try simp only [Act.put, List.setIfInBounds_toArray, List.set_cons_zero, List.set_cons_succ]
            refine fT_take (i := 17) (v := ?_) rfl (by kernel_rfl) (fun _ _ _ h => h) (by rfl) hSd ?_ ?_
            rotate_left 1
            · intro wS hSw
              obtain ⟨s0, s1, s2, s3⟩ := hSw
              go_simp
              try with_reducible rfl
            try simp only [Act.put, List.setIfInBounds_toArray, List.set_cons_zero, List.set_cons_succ]
            refine fT_take (i := 18) (v := ?_) rfl (by kernel_rfl) (fun _ _ _ h => h) (by rfl) hSd ?_ ?_
            rotate_left 1
            · intro wS hSw
              obtain ⟨s0, s1, s2, s3⟩ := hSw
              go_simp
              try with_reducible rfl
            try simp only [Act.put, List.setIfInBounds_toArray, List.set_cons_zero, List.set_cons_succ]
            refine fT_take (i := 19) (v := ?_) rfl (by kernel_rfl) (fun _ _ _ h => h) (by rfl) hSd ?_ ?_
            rotate_left 1
            · intro wS hSw
              obtain ⟨s0, s1, s2, s3⟩ := hSw
              go_simp
              try with_reducible rfl
            try simp only [Act.put, List.setIfInBounds_toArray, List.set_cons_zero, List.set_cons_succ]
            refine fT_take (i := 20) (v := ?_) rfl (by kernel_rfl) (fun _ _ _ h => h) (by rfl) hSd ?_ ?_
            rotate_left 1
            · intro wS hSw
              obtain ⟨s0, s1, s2, s3⟩ := hSw
              go_simp
              try with_reducible rfl
            try simp only [Act.put, List.setIfInBounds_toArray, List.set_cons_zero, List.set_cons_succ]
            refine fT_take (i := 21) (v := ?_) rfl (by kernel_rfl) (fun _ _ _ h => h) (by rfl) hSd ?_ ?_
            rotate_left 1
            · intro wS hSw
              obtain ⟨s0, s1, s2, s3⟩ := hSw
              go_simp
              try with_reducible rfl
            try simp only [Act.put, List.setIfInBounds_toArray, List.set_cons_zero, List.set_cons_succ]
            refine fT_take (i := 22) (v := ?_) rfl (by kernel_rfl) (fun _ _ _ h => h) (by rfl) hSd ?_ ?_
            rotate_left 1
            · intro wS hSw
              obtain ⟨s0, s1, s2, s3⟩ := hSw
              go_simp
              try with_reducible rfl
            try simp only [Act.put, List.setIfInBounds_toArray, List.set_cons_zero, List.set_cons_succ]
            refine wpAnyF_next (i := 23) rfl (by kernel_rfl) (fun K hK => ?_)
            go_simp
            with_reducible refine HC.out.mono ?_
            rintro e w5 ⟨a5, c5, rfl, hs5, hb5⟩
            have hB5 := hBq.trans (hb5.mono hBq.size)
            have hS5 := HX.out w5 hB5
            dsimp only
            refine hK.out _ _ (.inr hS5) ?_
            clear hK K
            try simp only [Act.put, List.setIfInBounds_toArray, List.set_cons_zero, List.set_cons_succ]
            refine wpAnyF_next (i := 24) rfl (by kernel_rfl) (fun K hK => ?_)
            go_simp
            refine hK.out _ _ (.inl rfl) ?_
            clear hK K
            try simp only [Act.put, List.setIfInBounds_toArray, List.set_cons_zero, List.set_cons_succ]
            refine wpAnyF_done (by kernel_rfl) ?_ _
            have HR : Hid (WhereA w l f (j + 1) (.slice a5 (putK Cg.ky A ⟨xn, xd, xc, xa, N⟩).length c5) w5) := ⟨a5, c5, by rw [HSn.out], by rw [HSn.out]; exact hs5, hB5⟩
            clear hSd hS5 hs5 hb5 hB5 hBq bd HC HO HB
            go_wp2_with fail
            go_roundw
            case rel => exact ⟨j + 1, by omega, by go_num, HR⟩
            case measure => simp [intOf]; omega
    · obtain rfl : j = l.length := by omega
      obtain ⟨oa, oc, rfl, hO, hB⟩ := HQ.out
      rw [List.take_length] at hO ⊢
      have HBs : Hid (WhereB w l f 0 (.slice oa (rpA f l).length oc) wr) := ⟨oa, oc, rfl, hO, hB⟩
      have hlA := rpA_len f l
      have HRo := Lib.hid (rpB_ok (w0 := f) HNd.out)
      have HRa := Lib.hid (rpA_ok f l HNd.out)
      obtain ⟨A, hA⟩ : ∃ A, rpA f l = A := ⟨_, rfl⟩
      have HAe := Lib.hid hA
      clear HQ hO hB hA
      go_wp2_with fail
      go_loopw [5, 9] (fun v i wr => ∃ j : Nat, j ≤ f.length ∧ i = .int .i64 j ∧ Hid (WhereB w l f j v wr)) (fun _ i _ => f.length - (intOf i).toNat)
      case atStart => exact ⟨0, by omega, rfl, HBs⟩
      case round =>
        obtain ⟨k, hk, rfl, HQ⟩ := hrel
        by_cases hkf : k < f.length
        · obtain ⟨oa, oc, rfl, hO, hB⟩ := HQ.out
          obtain ⟨y, hy'⟩ : ∃ y, f[k]'hkf = y := ⟨_, rfl⟩
          have hx' : f[k]? = some y := by rw [← hy']; exact List.getElem?_eq_getElem hkf
          rcases (H'.out.after hB).sh with rfl | ⟨b', o', rfl, hbl'⟩
          · exact absurd hkf (by simp)
          obtain ⟨yd, yc, ya⟩ := y
          have HY : Hid (∀ W, Below w.heap.size w W → W.cell? ⟨b', o' + k * 3, none⟩ = some (.int .i64 yd) ∧ W.cell? ⟨b', o' + k * 3 + 1, none⟩ = some (.int .i64 yc) ∧ W.cell? ⟨b', o' + k * 3 + 2, none⟩ = some (.int .i64 ya)) := fun W hW => ⟨RecsAt.cell (H'.out.after hW).recs rfl hkf hx' (j := 0) rfl, RecsAt.cell (H'.out.after hW).recs rfl hkf hx' (j := 1) rfl, RecsAt.cell (H'.out.after hW).recs rfl hkf hx' (j := 2) rfl⟩
          have i3 : (0 : Int) ≤ (k : Int) := by omega
          have i4 : (k : Int) < (f.length : Int) := by omega
          have HO := Lib.hid hO
          have HB := Lib.hid hB
          have hTk : f.take (k + 1) = f.take k ++ [⟨yd, yc, ya⟩] := by rw [List.take_succ_eq_append_getElem hkf, hy']
          have hsn := rpB_snoc l (rpA f l) (f.take k) ⟨yd, yc, ya⟩
          rw [← hTk] at hsn
          have hnew : (∀ x ∈ l, (yd, yc) ≠ x.ky) → ∀ z ∈ rpB l (rpA f l) (f.take k), z.ky ≠ (yd, yc) := fun hno z hz e => by
            rcases ((HRo.out (f.take k) (List.Pairwise.sublist (List.take_sublist _ _) HRi.out)).2 z).1 hz with h | ⟨y', hy1, _, rfl⟩
            · obtain ⟨x, hx, rfl, _⟩ := (HRa.out.2 z).1 h
              exact hno x hx e.symm
            · exact take_keys HRi.out hkf hx' y' hy1 e
          have hlen : (rpB l (rpA f l) (f.take k)).length ≤ 800 := Nat.le_trans (rpB_len _ _ _) (by rw [List.length_take]; omega)
          have HSn := Lib.hid hsn
          have HNw := Lib.hid hnew
          obtain ⟨S, hS⟩ : ∃ S, rpB l (rpA f l) (f.take k) = S := ⟨_, rfl⟩
          rw [hS] at HSn HNw HO hlen ⊢
          have g1 : decide ((k : Int) < (f.length : Int)) = true := decide_eq_true (by omega)
          have g2 : decide (k < f.length) = true := decide_eq_true hkf
          have HLt := Lib.hid hkf
          clear hy' hx' hO hB hTk hsn hnew hS HQ hkf HBs
          go_wp2_with fail
          go_loopw [10, 11] (fun v i wr => ∃ j : Nat, j ≤ l.length ∧ i = .int .i64 j ∧ v = .bool (hasK (l.take j) (yd, yc)) ∧ Hid (SlAt wr 5 encG oa oc S) ∧ Hid (Below w.heap.size w wr)) (fun _ i _ => l.length - (intOf i).toNat)
          case atStart => exact ⟨0, by omega, rfl, rfl, HO, HB⟩
          case round =>
            obtain ⟨j, hj, rfl, rfl, HO, HB⟩ := hrel
            by_cases hlt : j < l.length
            · obtain ⟨x, hy⟩ : ∃ x, l[j]'hlt = x := ⟨_, rfl⟩
              have hx : l[j]? = some x := by rw [← hy]; exact List.getElem?_eq_getElem hlt
              rcases (H.out.after HB.out).sh with rfl | ⟨b, o, rfl, hbl⟩
              · exact absurd hlt (by simp)
              obtain ⟨xn, xd, xc, xa⟩ := x
              have HX : Hid (∀ W, Below w.heap.size w W → W.cell? ⟨b, o + j * 4, none⟩ = some (.int .i64 xn) ∧ W.cell? ⟨b, o + j * 4 + 1, none⟩ = some (.int .i64 xd) ∧ W.cell? ⟨b, o + j * 4 + 2, none⟩ = some (.int .i64 xc) ∧ W.cell? ⟨b, o + j * 4 + 3, none⟩ = some (.int .i64 xa)) := fun W hW => ⟨RecsAt.cell (H.out.after hW).recs rfl hlt hx (j := 0) rfl, RecsAt.cell (H.out.after hW).recs rfl hlt hx (j := 1) rfl, RecsAt.cell (H.out.after hW).recs rfl hlt hx (j := 2) rfl, RecsAt.cell (H.out.after hW).recs rfl hlt hx (j := 3) rfl⟩
              have i1 : (0 : Int) ≤ (j : Int) := by omega
              have i2 : (j : Int) < (l.length : Int) := by omega
              have hTk : l.take (j + 1) = l.take j ++ [⟨xn, xd, xc, xa⟩] := by rw [List.take_succ_eq_append_getElem hlt, hy]
              have hth : hasK (l.take (j + 1)) (yd, yc) = (hasK (l.take j) (yd, yc) || decide ((yd, yc) = (xd, xc))) := by rw [hTk]; exact hasK_snoc _ _ _
              obtain ⟨p0, p1, p2, p3⟩ := HX.out wr HB.out
              obtain ⟨q0, q1, q2⟩ := HY.out wr HB.out
              have HO2 : Hid (∀ n, SlAt (wr.drewN n) 5 encG oa oc S) := fun n => HO.out.after (below_draws _ n)
              have HB2 : Hid (∀ n, Below w.heap.size w (wr.drewN n)) := fun n => HB.out.trans (below_draws _ n)
              have HTh := Lib.hid hth
              obtain ⟨T, hT⟩ : ∃ T, hasK (l.take j) (yd, yc) = T := ⟨_, rfl⟩
              rw [hT] at HTh ⊢
              clear hy hx hTk hth hT HO HB HX
              cases T with
              | true =>
                have HE : Hid (hasK (l.take (j + 1)) (yd, yc) = true) := by show _ = _; rw [HTh.out, Bool.true_or]
                go_wp2_with (go_quiet (fail))
                go_roundw
                case rel => exact ⟨j + 1, by omega, by go_num, by rw [HE.out], HO2.out _, HB2.out _⟩
                case measure => simp [intOf]; omega
              | false =>
                by_cases h1 : yd = xd
                · by_cases h2 : yc = xc
                  · have d1 : (yd == xd) = true := by rw [beq_iff_eq]; exact h1
                    have d2 : (yc == xc) = true := by rw [beq_iff_eq]; exact h2
                    have HE : Hid (hasK (l.take (j + 1)) (yd, yc) = true) := by show _ = _; rw [HTh.out, h1, h2]; simp
                    clear h1 h2
                    go_wp2_with (go_quiet (fail))
                    go_roundw
                    case rel => exact ⟨j + 1, by omega, by go_num, by rw [HE.out], HO2.out _, HB2.out _⟩
                    case measure => simp [intOf]; omega
                  · have d1 : (yd == xd) = true := by rw [beq_iff_eq]; exact h1
                    have d2 : (yc == xc) = false := by rw [beq_eq_false_iff_ne]; exact h2
                    have HE : Hid (hasK (l.take (j + 1)) (yd, yc) = false) := by show _ = _; rw [HTh.out]; simp [h2]
                    clear h1 h2
                    go_wp2_with (go_quiet (fail))
                    go_roundw
                    case rel => exact ⟨j + 1, by omega, by go_num, by rw [HE.out], HO2.out _, HB2.out _⟩
                    case measure => simp [intOf]; omega
                · have d1 : (yd == xd) = false := by rw [beq_eq_false_iff_ne]; exact h1
                  have HE : Hid (hasK (l.take (j + 1)) (yd, yc) = false) := by show _ = _; rw [HTh.out]; simp [h1]
                  clear h1
                  go_wp2_with (go_quiet (fail))
                  go_roundw
                  case rel => exact ⟨j + 1, by omega, by go_num, by rw [HE.out], HO2.out _, HB2.out _⟩
                  case measure => simp [intOf]; omega
            · obtain rfl : j = l.length := by omega
              rw [List.take_length]
              obtain ⟨q0, q1, q2⟩ := HY.out wr HB.out
              have hsn := HSn.out
              rw [show (⟨yd, yc, ya⟩ : Fl).ky = (yd, yc) from rfl] at hsn
              have hkf := HLt.out
              clear HSn
              by_cases he : ∃ x ∈ l, (yd, yc) = x.ky
              · rw [hasK_iff.2 he]
                rw [if_pos he] at hsn
                have HR : Hid (WhereB w l f (k + 1) (.slice oa S.length oc) wr) := ⟨oa, oc, by rw [hsn], by rw [hsn]; exact HO.out, HB.out⟩
                clear hsn he HO HB
                go_wp2_with fail
                go_roundw
                case rel => exact ⟨k + 1, by omega, by go_num, HR⟩
                case measure => simp [intOf]; omega
              · rw [show hasK l (yd, yc) = false from by cases hh : hasK l (yd, yc) with | false => rfl | true => exact absurd (hasK_iff.1 hh) he]
                rw [if_neg he] at hsn
                have HSn := Lib.hid hsn
                have HNo := Lib.hid (HNw.out (fun x hx e => he ⟨x, hx, e⟩))
                clear hsn he
                go_wp2_with fail
                refine wp_region_final (fun W => W.cell? ⟨b', o' + k * 3, none⟩ = some (.int .i64 yd) ∧ W.cell? ⟨b', o' + k * 3 + 1, none⟩ = some (.int .i64 yc) ∧ W.cell? ⟨b', o' + k * 3 + 2, none⟩ = some (.int .i64 ya)) 18 (by kernel_rfl) ?_
                have bd : Below wr.heap.size wr wr.drew := (Below.refl _ _).drew
                obtain ⟨wq, hwq⟩ : ∃ W, wr.drew = W := ⟨_, rfl⟩
                rw [hwq] at bd ⊢
                clear hwq
                have zr := HB.out.size
                have hBq := HB.out.trans (bd.mono zr)
                have hSd := HY.out wq hBq
                have hc := put_ok oa oc S ⟨-1, yd, yc, 0, ya⟩ wq (HO.out.after bd) (by omega) HNo.out
                dsimp only [encG] at hc
                have HC := Lib.hid hc
                clear hc
                refine fT_take (i := 0) (v := ?_) rfl (by kernel_rfl) (fun _ _ _ h => h) (by rfl) hSd ?_ ?_
                rotate_left 1
                · intro wS hSw
                  obtain ⟨s0, s1, s2⟩ := hSw
                  go_simp
                  try with_reducible rfl
                try simp only [Act.put, List.setIfInBounds_toArray, List.set_cons_zero, List.set_cons_succ]
                refine fT_take (i := 1) (v := ?_) rfl (by kernel_rfl) (fun _ _ _ h => h) (by rfl) hSd ?_ ?_
                rotate_left 1
                · intro wS hSw
                  obtain ⟨s0, s1, s2⟩ := hSw
                  go_simp
                  try with_reducible rfl
                try simp only [Act.put, List.setIfInBounds_toArray, List.set_cons_zero, List.set_cons_succ]
                refine fT_take (i := 2) (v := ?_) rfl (by kernel_rfl) (fun _ _ _ h => h) (by rfl) hSd ?_ ?_
                rotate_left 1
                · intro wS hSw
                  obtain ⟨s0, s1, s2⟩ := hSw
                  go_simp
                  try with_reducible rfl
                try simp only [Act.put, List.setIfInBounds_toArray, List.set_cons_zero, List.set_cons_succ]
                refine fT_take (i := 3) (v := ?_) rfl (by kernel_rfl) (fun _ _ _ h => h) (by rfl) hSd ?_ ?_
                rotate_left 1
                · intro wS hSw
                  obtain ⟨s0, s1, s2⟩ := hSw
                  go_simp
                  try with_reducible rfl
                try simp only [Act.put, List.setIfInBounds_toArray, List.set_cons_zero, List.set_cons_succ]
                refine fT_take (i := 4) (v := ?_) rfl (by kernel_rfl) (fun _ _ _ h => h) (by rfl) hSd ?_ ?_
                rotate_left 1
                · intro wS hSw
                  obtain ⟨s0, s1, s2⟩ := hSw
                  go_simp
                  try with_reducible rfl
                try simp only [Act.put, List.setIfInBounds_toArray, List.set_cons_zero, List.set_cons_succ]
                refine fT_take (i := 5) (v := ?_) rfl (by kernel_rfl) (fun _ _ _ h => h) (by rfl) hSd ?_ ?_
                rotate_left 1
                · intro wS hSw
                  obtain ⟨s0, s1, s2⟩ := hSw
                  go_simp
                  try with_reducible rfl
                try simp only [Act.put, List.setIfInBounds_toArray, List.set_cons_zero, List.set_cons_succ]
                refine fT_take (i := 6) (v := ?_) rfl (by kernel_rfl) (fun _ _ _ h => h) (by rfl) hSd ?_ ?_
                rotate_left 1
                · intro wS hSw
                  obtain ⟨s0, s1, s2⟩ := hSw
                  go_simp
                  try with_reducible rfl
                try simp only [Act.put, List.setIfInBounds_toArray, List.set_cons_zero, List.set_cons_succ]
                refine fT_take (i := 7) (v := ?_) rfl (by kernel_rfl) (fun _ _ _ h => h) (by rfl) hSd ?_ ?_
                rotate_left 1
                · intro wS hSw
                  obtain ⟨s0, s1, s2⟩ := hSw
                  go_simp
                  try with_reducible rfl
                try simp only [Act.put, List.setIfInBounds_toArray, List.set_cons_zero, List.set_cons_succ]
                refine fT_take (i := 8) (v := ?_) rfl (by kernel_rfl) (fun _ _ _ h => h) (by rfl) hSd ?_ ?_
                rotate_left 1
                · intro wS hSw
                  obtain ⟨s0, s1, s2⟩ := hSw
                  go_simp
                  try with_reducible rfl
                try simp only [Act.put, List.setIfInBounds_toArray, List.set_cons_zero, List.set_cons_succ]
                refine fT_take (i := 9) (v := ?_) rfl (by kernel_rfl) (fun _ _ _ h => h) (by rfl) hSd ?_ ?_
                rotate_left 1
                · intro wS hSw
                  obtain ⟨s0, s1, s2⟩ := hSw
                  go_simp
                  try with_reducible rfl
                try simp only [Act.put, List.setIfInBounds_toArray, List.set_cons_zero, List.set_cons_succ]
                refine fT_take (i := 10) (v := ?_) rfl (by kernel_rfl) (fun _ _ _ h => h) (by rfl) hSd ?_ ?_
                rotate_left 1
                · intro wS hSw
                  obtain ⟨s0, s1, s2⟩ := hSw
                  go_simp
                  try with_reducible rfl
                try simp only [Act.put, List.setIfInBounds_toArray, List.set_cons_zero, List.set_cons_succ]
                refine fT_take (i := 11) (v := ?_) rfl (by kernel_rfl) (fun _ _ _ h => h) (by rfl) hSd ?_ ?_
                rotate_left 1
                · intro wS hSw
                  obtain ⟨s0, s1, s2⟩ := hSw
                  go_simp
                  try with_reducible rfl
                try simp only [Act.put, List.setIfInBounds_toArray, List.set_cons_zero, List.set_cons_succ]
                refine fT_take (i := 12) (v := ?_) rfl (by kernel_rfl) (fun _ _ _ h => h) (by rfl) hSd ?_ ?_
                rotate_left 1
                · intro wS hSw
                  obtain ⟨s0, s1, s2⟩ := hSw
                  go_simp
                  try with_reducible rfl
                try simp only [Act.put, List.setIfInBounds_toArray, List.set_cons_zero, List.set_cons_succ]
                refine fT_take (i := 13) (v := ?_) rfl (by kernel_rfl) (fun _ _ _ h => h) (by rfl) hSd ?_ ?_
                rotate_left 1
                · intro wS hSw
                  obtain ⟨s0, s1, s2⟩ := hSw
                  go_simp
                  try with_reducible rfl
                try simp only [Act.put, List.setIfInBounds_toArray, List.set_cons_zero, List.set_cons_succ]
                refine fT_take (i := 14) (v := ?_) rfl (by kernel_rfl) (fun _ _ _ h => h) (by rfl) hSd ?_ ?_
                rotate_left 1
                · intro wS hSw
                  obtain ⟨s0, s1, s2⟩ := hSw
                  go_simp
                  try with_reducible rfl
                try simp only [Act.put, List.setIfInBounds_toArray, List.set_cons_zero, List.set_cons_succ]
                refine fT_take (i := 15) (v := ?_) rfl (by kernel_rfl) (fun _ _ _ h => h) (by rfl) hSd ?_ ?_
                rotate_left 1
                · intro wS hSw
                  obtain ⟨s0, s1, s2⟩ := hSw
                  go_simp
                  try with_reducible rfl
                try simp only [Act.put, List.setIfInBounds_toArray, List.set_cons_zero, List.set_cons_succ]
                refine fT_take (i := 16) (v := ?_) rfl (by kernel_rfl) (fun _ _ _ h => h) (by rfl) hSd ?_ ?_
                rotate_left 1
                · intro wS hSw
                  obtain ⟨s0, s1, s2⟩ := hSw
                  go_simp
                  try with_reducible rfl
                try simp only [Act.put, List.setIfInBounds_toArray, List.set_cons_zero, List.set_cons_succ]
                refine wpAnyF_next (i := 17) rfl (by kernel_rfl) (fun K hK => ?_)
                go_simp
                with_reducible refine HC.out.mono ?_
                rintro e w5 ⟨a5, c5, rfl, hs5, hb5⟩
                have hB5 := hBq.trans (hb5.mono hBq.size)
                have hS5 := HY.out w5 hB5
                dsimp only
                refine hK.out _ _ (.inr hS5) ?_
                clear hK K
                try simp only [Act.put, List.setIfInBounds_toArray, List.set_cons_zero, List.set_cons_succ]
                refine wpAnyF_next (i := 18) rfl (by kernel_rfl) (fun K hK => ?_)
                go_simp
                refine hK.out _ _ (.inl rfl) ?_
                clear hK K
                try simp only [Act.put, List.setIfInBounds_toArray, List.set_cons_zero, List.set_cons_succ]
                refine wpAnyF_done (by kernel_rfl) ?_ _
                have HR : Hid (WhereB w l f (k + 1) (.slice a5 (putK Cg.ky S ⟨-1, yd, yc, 0, ya⟩).length c5) w5) := ⟨a5, c5, by rw [HSn.out], by rw [HSn.out]; exact hs5, hB5⟩
                clear hSd hS5 hs5 hb5 hB5 hBq bd HC HO HB
                go_wp2_with fail
                go_roundw
                case rel => exact ⟨k + 1, by omega, by go_num, HR⟩
                case measure => simp [intOf]; omega
        · obtain rfl : k = f.length := by omega
          obtain ⟨oa, oc, rfl, hO, hB⟩ := HQ.out
          rw [List.take_length] at hO ⊢
          have HF : Hid (PutG w (rpB l (rpA f l) f) (.returned (.slice oa (rpB l (rpA f l) f).length oc)) wr) := ⟨oa, oc, rfl, hO, hB⟩
          obtain ⟨S, hS⟩ : ∃ S, rpB l (rpA f l) f = S := ⟨_, rfl⟩
          rw [hS] at HF ⊢
          have HSe := Lib.hid hS
          clear HQ hO hB hS
          go_wp2_with fail
          go_ret
          rw [HSe.out]
          exact HF.out

end Go.Proofs.Ytmjgcenhgpkhiaa
