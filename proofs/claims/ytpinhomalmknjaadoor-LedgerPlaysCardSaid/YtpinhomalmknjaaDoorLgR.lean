/- The law's nought: all parties together. -/
import Derived.Test.YtpinhomalmknjaaDoorLgN
namespace Go.Proofs.YtpinhomalmknjaaDoor
open Go.RowKit
set_option linter.unusedVariables false
set_option linter.unusedSimpArgs false
set_option maxRecDepth 100000

def sumK (z : Nat → Int) : Nat → Int
  | 0 => 0
  | n + 1 => sumK z n + z n
def fitK (z : Nat → Int) : Nat → Bool
  | 0 => true
  | n + 1 => fitK z n && fitsI (z n)
theorem sumK_add (f g : Nat → Int) : ∀ n, sumK (fun i => f i + g i) n = sumK f n + sumK g n
  | 0 => rfl
  | n + 1 => by
    have := sumK_add f g n
    simp only [sumK]
    omega
theorem sumK_zero : ∀ n, sumK (fun _ => 0) n = 0
  | 0 => rfl
  | n + 1 => by simp [sumK, sumK_zero n]
theorem sumK_one (a p : Int) : ∀ n : Nat, sumK (fun i => if p = (i : Int) then a else 0) n = if 0 ≤ p ∧ p < (n : Int) then a else 0
  | 0 => by rw [if_neg (by omega)]; rfl
  | n + 1 => by
    have h := sumK_one a p n
    simp only [sumK]
    rw [h]
    by_cases h1 : p = (n : Int)
    · rw [if_pos h1, if_neg (by omega), if_pos (by omega)]; omega
    · rw [if_neg h1]
      by_cases h2 : 0 ≤ p ∧ p < (n : Int)
      · rw [if_pos h2, if_pos (by omega)]; omega
      · rw [if_neg h2, if_neg (by omega)]; rfl
theorem sumK_ls (s : Six) (q : Six → Bool) (hq : q s = true) (n : Nat) : ∀ ls : List Ln, (∀ l ∈ ls, 0 ≤ l.p ∧ l.p < (n : Int)) → sumK (fun i => (lnsQ q (i : Int) s ls).sum) n = (ls.map Ln.a).sum
  | [], _ => by simp [lnsQ, sumK_zero]
  | l :: ls, h => by
    have ih := sumK_ls s q hq n ls (fun x hx => h x (List.mem_cons_of_mem _ hx))
    have h0 := h l List.mem_cons_self
    have e : (fun i : Nat => (lnsQ q (i : Int) s (l :: ls)).sum) = fun i : Nat => (if l.p = (i : Int) then l.a else 0) + (lnsQ q (i : Int) s ls).sum := by
      funext i
      unfold lnsQ
      rw [hq]
      by_cases hp : l.p = (i : Int)
      · rw [List.filter_cons_of_pos (by simpa using hp), if_pos hp]; simp
      · rw [List.filter_cons_of_neg (by simpa using hp), if_neg hp]; simp
    rw [e, sumK_add, ih, sumK_one, if_pos h0]
    simp
theorem sumK_no (s : Six) (q : Six → Bool) (hq : q s = false) (n : Nat) (ls : List Ln) : sumK (fun i => (lnsQ q (i : Int) s ls).sum) n = 0 := by
  have e : (fun i : Nat => (lnsQ q (i : Int) s ls).sum) = fun _ => 0 := by
    funext i
    unfold lnsQ
    rw [hq]
    have : (ls.filter fun l => decide (l.p = (i : Int)) && false) = [] := List.filter_eq_nil_iff.2 (by simp)
    rw [this]
    rfl
  rw [e, sumK_zero]
theorem check_even {s : Six} {ls : List Ln} (h : checkE s ls = 0) : (ls.map Ln.a).sum = 0 ∧ ∀ l ∈ ls, 0 ≤ l.p ∧ l.p < 16 := by
  obtain ⟨h1, _, _, _, h5⟩ := check_parts h
  refine ⟨by unfold evenB at h5; exact of_decide_eq_true h5, fun l hl => ?_⟩
  unfold rangesB at h1
  simp only [Bool.and_eq_true, decide_eq_true_eq] at h1
  have h2 := h1.1.1.1.2
  have hk : lineOk l = true := by
    cases hq : lineOk l with
    | true => rfl
    | false =>
      have : (ls.any fun l => !lineOk l) = true := List.any_eq_true.2 ⟨l, hl, by rw [hq]; rfl⟩
      rw [this] at h2
      cases h2
  unfold lineOk belowB at hk
  simp at hk
  omega
theorem even_all (q : Six → Bool) : ∀ L : List EnP, (∀ e ∈ L, checkE e.s e.ls = 0) → sumK (fun i => (sumQ q (i : Int) L).sum) 16 = 0
  | [], _ => by simp [sumQ, sumK_zero]
  | x :: L, h => by
    have ih := even_all q L (fun e he => h e (List.mem_cons_of_mem _ he))
    have e : (fun i : Nat => (sumQ q (i : Int) (x :: L)).sum) = fun i : Nat => (lnsQ q (i : Int) x.s x.ls).sum + (sumQ q (i : Int) L).sum := by
      funext i
      simp [sumQ]
    rw [e, sumK_add, ih]
    obtain ⟨h1, h2⟩ := check_even (h x List.mem_cons_self)
    cases hq : q x.s
    · rw [sumK_no x.s q hq]; rfl
    · rw [sumK_ls x.s q hq 16 x.ls h2, h1]; rfl

theorem sumA_fit {z : Int} (h : fitsI z = true) : sumA z = .tuple #[.int .i64 z, .int .i64 0] := by unfold sumA; rw [if_pos h]
theorem sumA_over {z : Int} (h : fitsI z = false) : sumA z = .tuple #[.int .i64 0, .int .i64 11] := by unfold sumA; rw [if_neg (by rw [h]; decide)]
theorem wrap_next (n s z : Int) (h : n = IntKind.i64.wrap s) : wrap64 (n + z) = IntKind.i64.wrap (s + z) := by
  subst h
  simp only [wrap64, IntKind.wrap_i64]
  omega
set_option maxHeartbeats 16000000 in
theorem nought_ok (p bm : Nat) (a : Option Addr) (cap : Nat) (E : List En) (seq : Int) (w : World) (h : LgAt w p bm a cap E) (hw : WL (E.map En.p)) (hl : E.length ≤ 1000) :
    Calls Tryd.prog 34 #[.pointer (some ⟨p, 0, none⟩), .int .i64 seq] w (TrueEnd w) := by
  have hf : ∀ e ∈ E, e.ls.length ≤ 100 := fun e he => by have := (check_nums (hw.ck e.p (List.mem_map.2 ⟨e, he, rfl⟩))).2.2.2.2; exact Nat.le_trans this (by omega)
  have HP : Hid (∀ (x y party : Int) W, Below w.heap.size w W → Calls Tryd.prog 16 #[.pointer (some ⟨p, 0, none⟩), .int .i64 party, .int .i64 x, .int .i64 y] W (SumEnd W (sumQ (qPer x y) party (E.map En.p)).sum)) := fun x y party W hW => lper_ok p bm a cap E party x y W (h.after hW) hl hf
  have HB : Hid (∀ (x y party : Int) W, Below w.heap.size w W → Calls Tryd.prog 15 #[.pointer (some ⟨p, 0, none⟩), .int .i64 party, .int .i64 x, .int .i64 y] W (SumEnd W (sumQ (qBal x y) party (E.map En.p)).sum)) := fun x y party W hW => lbal_ok p bm a cap E party x y W (h.after hW) hl hf
  have HE : Hid (∀ q, sumK (fun i => (sumQ q (i : Int) (E.map En.p)).sum) 16 = 0) := fun q => even_all q _ hw.ck
  clear h hw hf
  go_enter Tryd.func34, Tryd.ntmps34
  go_wp2_with fail
  go_loopw [5] (fun s wr => ∃ c : Nat, c ≤ 8 ∧ s = .int .i64 c ∧ Below w.heap.size w wr) (fun s _ => 8 - (intOf s).toNat)
  case atStart => exact ⟨0, by omega, rfl, Below.refl _ _⟩
  case round =>
    obtain ⟨c, hc, rfl, hbc⟩ := hrel
    by_cases hc8 : c < 8
    · have c1 : decide ((c : Int) < 8) = true := decide_eq_true (by omega)
      go_wp2_with fail
      go_loopw [6] (fun s wk => ∃ k : Nat, k ≤ 8 ∧ s = .int .i64 k ∧ Below w.heap.size w wk) (fun s _ => 8 - (intOf s).toNat)
      case atStart => exact ⟨0, by omega, rfl, hbc⟩
      case round =>
        obtain ⟨k, hk, rfl, hbk⟩ := hrel
        by_cases hk8 : k < 8
        · have k1 : decide ((k : Int) < 8) = true := decide_eq_true (by omega)
          obtain ⟨z, hz⟩ : ∃ z : Nat → Int, z = if k < 4 then (fun i : Nat => (sumQ (qPer c k) (i : Int) (E.map En.p)).sum) else (fun i : Nat => (sumQ (qBal c (wrap64 (wrap64 (seq + 4) - (k : Int)))) (i : Int) (E.map En.p)).sum) := ⟨_, rfl⟩
          have HZ := Lib.hid hz
          have HZ16 : Hid (sumK z 16 = 0) := by
            show _ = _
            rw [hz]
            split
            · exact HE.out _
            · exact HE.out _
          clear hz
          go_wp2_with fail
          go_loopw [7, 8, 9] (fun v f s wj => ∃ j : Nat, j ≤ 16 ∧ s = .int .i64 j ∧ ∃ b, f = .bool b ∧ fitK z j = b ∧ (∃ n : Int, v = .int .i64 n ∧ (b = true → n = IntKind.i64.wrap (sumK z j))) ∧ Below w.heap.size w wj) (fun _ _ s _ => 16 - (intOf s).toNat)
          case atStart => exact ⟨0, by omega, rfl, true, rfl, rfl, ⟨0, rfl, fun _ => (show (0 : Int) = IntKind.i64.wrap 0 by decide)⟩, hbk⟩
          case round =>
            obtain ⟨j, hj, rfl, b, rfl, hf, ⟨n, rfl, hn⟩, hbj⟩ := hrel
            have HF := Lib.hid hf
            have HN := Lib.hid hn
            clear hf hn
            by_cases hj16 : j < 16
            · have j1 : decide ((j : Int) < 16) = true := decide_eq_true (by omega)
              have HP1 := Lib.hid (HP.out c k j _ hbj)
              go_wp2_with fail
              obtain ⟨S, hS⟩ : ∃ S, (sumQ (qPer c k) j (E.map En.p)).sum = S := ⟨_, rfl⟩
              rw [hS] at HP1
              obtain ⟨n0, e0, hne⟩ := sumA_two S
              with_reducible refine HP1.out.mono ?_
              rintro e w1 ⟨rfl, hb1⟩
              have hb2' : Below w.heap.size w w1 := hbj.trans (hb1.mono hbj.size)
              by_cases hk4 : k < 4
              · have k4 : decide (4 ≤ (k : Int)) = false := decide_eq_false (by omega)
                have HZj : Hid (z j = S) := by show _ = _; rw [HZ.out, if_pos hk4]; exact hS
                clear hS hne
                cases hfS : fitsI S
                · rw [sumA_over hfS]
                  cases b
                  · go_wp2_with fail
                    go_roundw
                    case rel => exact ⟨j + 1, by omega, by go_num, _, rfl, (by rw [show fitK z (j + 1) = (fitK z j && fitsI (z j)) from rfl, HF.out]; rfl), ⟨_, rfl, fun hb => absurd hb (by decide)⟩, hb2'⟩
                    case measure => simp [intOf]; omega
                  · go_wp2_with fail
                    go_roundw
                    case rel => exact ⟨j + 1, by omega, by go_num, _, rfl, (by rw [show fitK z (j + 1) = (fitK z j && fitsI (z j)) from rfl, HF.out, HZj.out, hfS]; rfl), ⟨_, rfl, fun hb => absurd hb (by decide)⟩, hb2'⟩
                    case measure => simp [intOf]; omega
                · rw [sumA_fit hfS]
                  cases b
                  · go_wp2_with fail
                    go_roundw
                    case rel => exact ⟨j + 1, by omega, by go_num, _, rfl, (by rw [show fitK z (j + 1) = (fitK z j && fitsI (z j)) from rfl, HF.out]; rfl), ⟨_, rfl, fun hb => absurd hb (by decide)⟩, hb2'⟩
                    case measure => simp [intOf]; omega
                  · go_wp2_with fail
                    go_roundw
                    case rel => exact ⟨j + 1, by omega, by go_num, _, rfl, (by rw [show fitK z (j + 1) = (fitK z j && fitsI (z j)) from rfl, HF.out, HZj.out, hfS]; rfl), ⟨_, rfl, fun _ => by rw [show sumK z (j + 1) = sumK z j + z j from rfl, HZj.out]; exact wrap_next _ _ _ (HN.out trivial)⟩, hb2'⟩
                    case measure => simp [intOf]; omega
              · have k4 : decide (4 ≤ (k : Int)) = true := decide_eq_true (by omega)
                clear hS
                have HB1 := Lib.hid (HB.out c (wrap64 (wrap64 (seq + 4) - (k : Int))) j w1 hb2')
                rw [hne]
                go_wp2_with fail
                obtain ⟨S, hS⟩ : ∃ S, (sumQ (qBal c (wrap64 (wrap64 (seq + 4) - (k : Int)))) j (E.map En.p)).sum = S := ⟨_, rfl⟩
                rw [hS] at HB1
                have HZj : Hid (z j = S) := by show _ = _; rw [HZ.out, if_neg hk4]; exact hS
                with_reducible refine HB1.out.mono ?_
                rintro e w2 ⟨rfl, hb3⟩
                have hb3' : Below w.heap.size w w2 := hb2'.trans (hb3.mono hb2'.size)
                clear hS hne
                cases hfS : fitsI S
                · rw [sumA_over hfS]
                  cases b
                  · go_wp2_with fail
                    go_roundw
                    case rel => exact ⟨j + 1, by omega, by go_num, _, rfl, (by rw [show fitK z (j + 1) = (fitK z j && fitsI (z j)) from rfl, HF.out]; rfl), ⟨_, rfl, fun hb => absurd hb (by decide)⟩, hb3'⟩
                    case measure => simp [intOf]; omega
                  · go_wp2_with fail
                    go_roundw
                    case rel => exact ⟨j + 1, by omega, by go_num, _, rfl, (by rw [show fitK z (j + 1) = (fitK z j && fitsI (z j)) from rfl, HF.out, HZj.out, hfS]; rfl), ⟨_, rfl, fun hb => absurd hb (by decide)⟩, hb3'⟩
                    case measure => simp [intOf]; omega
                · rw [sumA_fit hfS]
                  cases b
                  · go_wp2_with fail
                    go_roundw
                    case rel => exact ⟨j + 1, by omega, by go_num, _, rfl, (by rw [show fitK z (j + 1) = (fitK z j && fitsI (z j)) from rfl, HF.out]; rfl), ⟨_, rfl, fun hb => absurd hb (by decide)⟩, hb3'⟩
                    case measure => simp [intOf]; omega
                  · go_wp2_with fail
                    go_roundw
                    case rel => exact ⟨j + 1, by omega, by go_num, _, rfl, (by rw [show fitK z (j + 1) = (fitK z j && fitsI (z j)) from rfl, HF.out, HZj.out, hfS]; rfl), ⟨_, rfl, fun _ => by rw [show sumK z (j + 1) = sumK z j + z j from rfl, HZj.out]; exact wrap_next _ _ _ (HN.out trivial)⟩, hb3'⟩
                    case measure => simp [intOf]; omega
            · obtain rfl : j = 16 := by omega
              cases b
              · go_wp2_with fail
                go_roundw
                case rel => exact ⟨k + 1, by omega, by go_num, hbj⟩
                case measure => simp [intOf]; omega
              · obtain rfl : n = 0 := by rw [HN.out rfl, HZ16.out]; decide
                go_wp2_with fail
                go_roundw
                case rel => exact ⟨k + 1, by omega, by go_num, hbj⟩
                case measure => simp [intOf]; omega
        · obtain rfl : k = 8 := by omega
          go_wp2_with fail
          go_roundw
          case rel => exact ⟨c + 1, by omega, by go_num, hbk⟩
          case measure => simp [intOf]; omega
    · obtain rfl : c = 8 := by omega
      go_wp2_with fail
      go_ret
      exact ⟨rfl, hbc⟩

end Go.Proofs.YtpinhomalmknjaaDoor
