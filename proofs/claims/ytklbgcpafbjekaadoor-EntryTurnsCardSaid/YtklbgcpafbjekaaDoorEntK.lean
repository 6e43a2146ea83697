/- The document's answer for entries: Flow. -/
import Derived.Test.YtklbgcpafbjekaaDoorEntJ
namespace Go.Proofs.YtklbgcpafbjekaaDoor
open Go.RowKit
set_option linter.unusedVariables false
set_option linter.unusedSimpArgs false

theorem flow_range {con day cur a h v : Int} (g : tagOk con day cur = true → ¬ (0 ≤ h ∧ h < 16 ∧ 0 ≤ v ∧ v < 16)) : flowErr con day cur a h v = 10 := by
  unfold flowErr
  split
  · rename_i h1
    split
    · rename_i h2
      split
      · rename_i h3
        exact absurd (by unfold belowB at h2 h3; simp at h2 h3; omega) (g h1)
      · rfl
    · rfl
  · rfl
theorem flow_more {con day cur a h v : Int} (g : tagOk con day cur = true) (b : 0 ≤ h ∧ h < 16 ∧ 0 ≤ v ∧ v < 16) : flowErr con day cur a h v = if h = v then 1 else if a = 0 then 12 else if a = -9223372036854775808 then 11 else 0 := by
  unfold flowErr belowB
  rw [if_pos g, if_pos (by simp; omega), if_pos (by simp; omega)]


theorem new_two {W : World} {c : Nat} (hc : W.heap.size = c) (l1 l2 : Ln) (t : TypeId) :
    LnAt (W.alloc (.cells #[.int .i64 l1.p, .int .i64 l1.c, .int .i64 l1.a, .int .i64 l2.p, .int .i64 l2.c, .int .i64 l2.a] t)) (some ⟨c, 0, none⟩) [l1, l2] := fun _ => ⟨c, 0, rfl, fun i hi => by
  subst hc
  rcases (show i = 0 ∨ i = 1 by simp at hi; omega) with rfl | rfl
  · exact ⟨World.cell?_alloc_new _ _ _ 0, World.cell?_alloc_new _ _ _ 1, World.cell?_alloc_new _ _ _ 2⟩
  · exact ⟨World.cell?_alloc_new _ _ _ 3, World.cell?_alloc_new _ _ _ 4, World.cell?_alloc_new _ _ _ 5⟩⟩

set_option maxHeartbeats 4000000 in
theorem refflow_ok (con day cur a h v : Int) (w : World) (ha : -9223372036854775808 ≤ a ∧ a ≤ 9223372036854775807) :
    Calls Tryd.prog 18 #[.int .i64 con, .int .i64 day, .int .i64 cur, .int .i64 a, .int .i64 h, .int .i64 v] w (FlowEnd con day cur a h v w) := by
  obtain ⟨a1, a2⟩ := ha
  obtain ⟨wa, hwa⟩ : ∃ wa, w.alloc (.cells (entCs zero6 none 0 0) 35) = wa := ⟨_, rfl⟩
  have hba : Below w.heap.size w wa := by rw [← hwa]; exact (Below.refl _ _).alloc (Nat.le_refl _) _
  have hza : wa.heap.size = w.heap.size + 1 := by rw [← hwa]; simp
  have hbx : OBox wa w.heap.size := by rw [← hwa]; exact OBox.new _ _
  have HZA := Lib.hid hza
  obtain ⟨⟨o0, o1, o2, o3, o4, o5, o6⟩, f0, f1, f2, f3, f4, f5, f6⟩ := hbx
  unfold entCs zero6 at hwa
  clear hza
  obtain ⟨g, hg⟩ : ∃ g, tagOk con day cur = g := ⟨_, rfl⟩
  have HG := Lib.hid hg
  have n0 : w.heap.size < wa.heap.size := by have := HZA.out; omega
  by_cases e1 : h = v
  · subst e1
    cases g
    all_goals
      clear hg
      go_enter Tryd.func18, Tryd.ntmps18
      go_wp2_with (go_at_call 24; refine (tagged_ok con day cur _).mono ?_; rintro e w1 ⟨rfl, rfl⟩; rw [HG.out])
      all_goals
        first
          | (have he : flowErr con day cur (a) h h = 10 := flow_range fun e => by first | (exact absurd (HG.out.symm.trans e) (by decide)) | omega
             refine bodyPost_ret (v := .tuple #[entV zero6 none 0 0, .int .i64 10]) ?_ rfl ?_
             · simp [results, Tryd.results18, go_sem, o0, o1, o2, o3, o4, o5, o6, entV, zero6]
             · exact ⟨below_set7 hba (Nat.le_refl _) _ _ _ _ _ _ _, .inr ⟨by rw [he]; decide, by rw [he]⟩⟩)
          | (have he : flowErr con day cur (a) h h = 1 := by rw [flow_more HG.out (by omega), if_pos rfl]
             refine bodyPost_ret (v := .tuple #[entV zero6 none 0 0, .int .i64 1]) ?_ rfl ?_
             · simp [results, Tryd.results18, go_sem, o0, o1, o2, o3, o4, o5, o6, entV, zero6]
             · exact ⟨below_set7 hba (Nat.le_refl _) _ _ _ _ _ _ _, .inr ⟨by rw [he]; decide, by rw [he]⟩⟩)
  · have b1 : (h == v) = false := by rw [beq_eq_false_iff_ne]; exact e1
    have E1 := Lib.hid e1
    clear e1
    by_cases e2 : a = 0
    · subst e2
      cases g
      all_goals
        clear hg
        go_enter Tryd.func18, Tryd.ntmps18
        go_wp2_with (go_at_call 24; refine (tagged_ok con day cur _).mono ?_; rintro e w1 ⟨rfl, rfl⟩; rw [HG.out])
        all_goals
          first
            | (have he : flowErr con day cur (0) h v = 10 := flow_range fun e => by first | (exact absurd (HG.out.symm.trans e) (by decide)) | omega
               refine bodyPost_ret (v := .tuple #[entV zero6 none 0 0, .int .i64 10]) ?_ rfl ?_
               · simp [results, Tryd.results18, go_sem, o0, o1, o2, o3, o4, o5, o6, entV, zero6]
               · exact ⟨below_set7 hba (Nat.le_refl _) _ _ _ _ _ _ _, .inr ⟨by rw [he]; decide, by rw [he]⟩⟩)
            | (have he : flowErr con day cur (0) h v = 12 := by rw [flow_more HG.out (by omega), if_neg E1.out, if_pos rfl]
               refine bodyPost_ret (v := .tuple #[entV zero6 none 0 0, .int .i64 12]) ?_ rfl ?_
               · simp [results, Tryd.results18, go_sem, o0, o1, o2, o3, o4, o5, o6, entV, zero6]
               · exact ⟨below_set7 hba (Nat.le_refl _) _ _ _ _ _ _ _, .inr ⟨by rw [he]; decide, by rw [he]⟩⟩)
    · have b2 : (a == 0) = false := by rw [beq_eq_false_iff_ne]; exact e2
      have E2 := Lib.hid e2
      clear e2
      by_cases hm : a = -9223372036854775808
      · subst hm
        cases g
        all_goals
          clear hg
          go_enter Tryd.func18, Tryd.ntmps18
          go_wp2_with (go_at_call 24; refine (tagged_ok con day cur _).mono ?_; rintro e w1 ⟨rfl, rfl⟩; rw [HG.out])
          all_goals
            first
              | (have he : flowErr con day cur (-9223372036854775808) h v = 10 := flow_range fun e => by first | (exact absurd (HG.out.symm.trans e) (by decide)) | omega
                 refine bodyPost_ret (v := .tuple #[entV zero6 none 0 0, .int .i64 10]) ?_ rfl ?_
                 · simp [results, Tryd.results18, go_sem, o0, o1, o2, o3, o4, o5, o6, entV, zero6]
                 · exact ⟨below_set7 hba (Nat.le_refl _) _ _ _ _ _ _ _, .inr ⟨by rw [he]; decide, by rw [he]⟩⟩)
              | (have he : flowErr con day cur (-9223372036854775808) h v = 11 := by rw [flow_more HG.out (by omega), if_neg E1.out, if_neg E2.out, if_pos rfl]
                 refine bodyPost_ret (v := .tuple #[entV zero6 none 0 0, .int .i64 11]) ?_ rfl ?_
                 · simp [results, Tryd.results18, go_sem, o0, o1, o2, o3, o4, o5, o6, entV, zero6]
                 · exact ⟨below_set7 hba (Nat.le_refl _) _ _ _ _ _ _ _, .inr ⟨by rw [he]; decide, by rw [he]⟩⟩)
      · have a3 : -9223372036854775807 ≤ a := by omega
        have b3 : (a == -9223372036854775808) = false := by rw [beq_eq_false_iff_ne]; exact hm
        have HM := Lib.hid hm
        clear hm
        cases g
        all_goals
          clear hg
          go_enter Tryd.func18, Tryd.ntmps18
          go_wp2_with (go_at_call 24; refine (tagged_ok con day cur _).mono ?_; rintro e w1 ⟨rfl, rfl⟩; rw [HG.out])
          all_goals
            first
              | (have he : flowErr con day cur (a) h v = 10 := flow_range fun e => by first | (exact absurd (HG.out.symm.trans e) (by decide)) | omega
                 refine bodyPost_ret (v := .tuple #[entV zero6 none 0 0, .int .i64 10]) ?_ rfl ?_
                 · simp [results, Tryd.results18, go_sem, o0, o1, o2, o3, o4, o5, o6, entV, zero6]
                 · exact ⟨below_set7 hba (Nat.le_refl _) _ _ _ _ _ _ _, .inr ⟨by rw [he]; decide, by rw [he]⟩⟩)
              | (have he : flowErr con day cur a h v = 0 := by rw [flow_more HG.out (by omega), if_neg E1.out, if_neg E2.out, if_neg HM.out]
                 refine bodyPost_ret (v := .tuple #[entV ⟨con, day, cur, 0, 0, -1⟩ (some ⟨wa.heap.size, 0, none⟩) 2 2, .int .i64 0]) ?_ rfl ?_
                 · simp [results, Tryd.results18, go_sem, o0, o1, o2, o3, o4, o5, o6, entV, n0]
                 · refine ⟨(below_set7 hba (Nat.le_refl _) _ _ _ _ _ _ _).alloc (by simp; omega) _, .inl ⟨he, _, rfl, ?_, by omega⟩⟩
                   exact new_two (by simp) ⟨h, cur, a⟩ ⟨v, cur, -a⟩ _)
end Go.Proofs.YtklbgcpafbjekaaDoor
