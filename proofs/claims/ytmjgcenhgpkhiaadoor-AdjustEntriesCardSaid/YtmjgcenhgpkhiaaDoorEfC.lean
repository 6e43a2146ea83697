/- Package adjust: Entries, plainly; a reverse and a flow as an entry that is there; one.get. -/
import Derived.Test.YtmjgcenhgpkhiaaDoorEfB
import Derived.Test.YtmjgcenhgpkhiaaDoorAdA
namespace Go.Proofs.YtmjgcenhgpkhiaaDoor
open Go.RowKit Go.Sort Go.Shelf
set_option linter.unusedVariables false
set_option linter.unusedSimpArgs false
set_option maxRecDepth 100000

def revP (x : EnP) (no : Int) : EnP := ⟨⟨x.s.con, x.s.day, x.s.cur, 0, 0, no⟩, x.ls.map Ln.neg⟩
def flowP (con d c n h v : Int) : EnP := ⟨⟨con, d, c, 0, 0, -1⟩, [⟨h, c, n⟩, ⟨v, c, -n⟩]⟩
def zeroEn : En := ⟨zero6, none, 0, []⟩
theorem zeroEn_ok (w : World) : EnOk w zeroEn := ⟨fun h => absurd h (by simp [zeroEn]), fun l hl => by simp [zeroEn] at hl, by simp [zeroEn], fun _ => ⟨rfl, rfl⟩⟩
/-- An entry that a call hands out, or none. -/
def HandEnd (n : Int) (p : EnP) (w : World) (e : Ending) (w' : World) : Prop :=
  ∃ y : En, e = .returned (.tuple #[entV y.s y.a y.ls.length y.cap, .int .i64 n]) ∧ EnOk w' y ∧ (∀ x, y.a = some x → w.heap.size ≤ x.block) ∧ (n = 0 → y.p = p) ∧ Below w.heap.size w w'
theorem neg_wf {ls : List Ln} (h : AllWf ls) (hm : ∀ l ∈ ls, -9223372036854775807 ≤ l.a ∧ l.a ≤ 9223372036854775807) : AllWf (ls.map Ln.neg) := fun l hl => by
  obtain ⟨k, hk, rfl⟩ := List.mem_map.1 hl
  have h1 := h k hk
  have h2 := hm k hk
  unfold Ln.wf at h1 ⊢
  unfold Ln.neg
  dsimp only
  omega
theorem revErr_check {s : Six} {ls : List Ln} {no : Int} (h : revErr s ls no = 0) : checkE s ls = 0 ∧ s.ref = -1 ∧ 0 ≤ no := by
  unfold revErr at h
  split at h
  · rename_i h1
    split at h
    · rename_i h2
      split at h
      · cases h
      · exact ⟨h1, h2, by omega⟩
    · cases h
  · rename_i h1; exact absurd h h1
theorem rev_hand (x : En) (no : Int) (w : World) (hR : RulesAt w) (hx : EnOk w x) : Calls Tryd.prog 10 #[entV x.s x.a x.ls.length x.cap, .int .i64 no] w (HandEnd (revErr x.s x.ls no) (revP x.p no) w) := by
  refine (reverse_ok x.s no x.a x.cap x.ls w hR hx.ln (by have := hx.few; omega) hx.wf hx.nil).mono ?_
  rintro e w' ⟨hb, ⟨h0, c, cap, rfl, hn, hl, hnew⟩ | ⟨h0, rfl⟩⟩
  · have hlen : (x.ls.map Ln.neg).length = x.ls.length := by simp
    refine ⟨⟨⟨x.s.con, x.s.day, x.s.cur, 0, 0, no⟩, c, cap, x.ls.map Ln.neg⟩, by dsimp only; rw [hlen, h0], ⟨hl, neg_wf hx.wf (fits_min (check_fits (revErr_check h0).1) hx.wf), ?_, ?_⟩, hnew, fun _ => rfl, hb⟩
    · show (x.ls.map Ln.neg).length ≤ 1000
      rw [hlen]; exact hx.few
    · show c = none → (x.ls.map Ln.neg).length = 0 ∧ cap = 0
      rw [hlen]; exact hn
  · exact ⟨zeroEn, rfl, zeroEn_ok _, (fun x hx => by cases hx), (fun h => absurd h h0), hb⟩
theorem flowErr_parts {con d c a h v : Int} (he : flowErr con d c a h v = 0) : tagOk con d c = true ∧ belowB h 16 = true ∧ belowB v 16 = true ∧ h ≠ v ∧ a ≠ 0 ∧ a ≠ -9223372036854775808 := by
  unfold flowErr at he
  split at he
  · rename_i h1
    split at he
    · rename_i h2
      split at he
      · rename_i h3
        split at he
        · cases he
        · rename_i h4
          split at he
          · cases he
          · rename_i h5
            split at he
            · cases he
            · rename_i h6; exact ⟨h1, h2, h3, h4, h5, h6⟩
      · cases he
    · cases he
  · cases he
theorem flow_hand (con d c a h v : Int) (w : World) (ha : -9223372036854775808 ≤ a ∧ a ≤ 9223372036854775807) :
    Calls Tryd.prog 11 #[.agg #[.int .i64 con, .int .i64 d, .int .i64 c], .int .i64 a, .int .i64 h, .int .i64 v] w (HandEnd (flowErr con d c a h v) (flowP con d c a h v) w) := by
  refine (flow_ok con d c a h v w ha).mono ?_
  rintro e w' ⟨hb, ⟨h0, g, rfl, hl, hnew⟩ | ⟨h0, rfl⟩⟩
  · obtain ⟨h1, h2, h3, h4, h5, h6⟩ := flowErr_parts h0
    refine ⟨⟨⟨con, d, c, 0, 0, -1⟩, some ⟨g, 0, none⟩, 2, [⟨h, c, a⟩, ⟨v, c, -a⟩]⟩, by rw [h0]; rfl, ⟨hl, fun l hl => ?_, by simp, fun e => by cases e⟩, (fun x hx => by cases hx; exact hnew), fun _ => rfl, hb⟩
    unfold tagOk belowB at h1
    unfold belowB at h2 h3
    simp only [Bool.and_eq_true, decide_eq_true_eq] at h1 h2 h3
    simp only [List.mem_cons, List.not_mem_nil, or_false] at hl
    rcases hl with rfl | rfl <;> (unfold Ln.wf; dsimp only; omega)
  · exact ⟨zeroEn, rfl, zeroEn_ok _, (fun x hx => by cases hx), (fun h => absurd h h0), hb⟩

/-- What a place to get entries of answers. -/
structure Getter (g : FuncId) (r : Value) (err : Int → Int) (ans : Int → EnP) (w : World) : Prop where
  enters : ∀ args w, (callFunc g args).run Tryd.prog w = .ok (.enter g args) w
  call : ∀ W, Below w.heap.size w W → ∀ no : Int, Calls Tryd.prog g #[r, .int .i64 no] W fun e W' => ∃ y : En, e = .returned (.tuple #[entV y.s y.a y.ls.length y.cap, .int .i64 (err no)]) ∧ EnOk W' y ∧ (err no = 0 → y.p = ans no) ∧ Below W.heap.size W W'

section
variable (con h v : Int) (err : Int → Int) (ans : Int → EnP)
def flE (c : Cg) : Int := if c.n = 0 then 0 else flowErr con c.d c.c c.n h v
def flL (c : Cg) : List EnP := if c.n = 0 then [] else [flowP con c.d c.c c.n h v]
def rvE (c : Cg) : Int := if c.no = -1 then 0 else if err c.no = 0 then revErr (ans c.no).s (ans c.no).ls c.no else err c.no
def rvL (c : Cg) : List EnP := if c.no = -1 then [] else [revP (ans c.no) c.no]
def chE (c : Cg) : Int := if rvE err ans c = 0 then flE con h v c else rvE err ans c
def chL (c : Cg) : List EnP := rvL ans c ++ flL con h v c
def entsE : List Cg → Int
  | [] => 0
  | c :: cs => if chE con h v err ans c = 0 then entsE cs else chE con h v err ans c
def entsL (cs : List Cg) : List EnP := cs.flatMap (chL con h v ans)
theorem entsL_len (cs : List Cg) : (entsL con h v ans cs).length ≤ 2 * cs.length := by
  induction cs with
  | nil => simp [entsL]
  | cons c cs ih =>
    have h1 : (chL con h v ans c).length ≤ 2 := by
      unfold chL rvL flL
      rw [List.length_append]
      split <;> split <;> simp
    unfold entsL at ih ⊢
    rw [List.flatMap_cons, List.length_append, List.length_cons]
    omega
theorem entsL_take {cs : List Cg} {i : Nat} {c : Cg} (hc : cs[i]? = some c) : entsL con h v ans (cs.take (i + 1)) = entsL con h v ans (cs.take i) ++ chL con h v ans c := by
  obtain ⟨hi, he⟩ := List.getElem?_eq_some_iff.1 hc
  unfold entsL
  rw [List.take_succ_eq_append_getElem hi, List.flatMap_append, he]
  simp
theorem entsE_bad {cs : List Cg} {i : Nat} {c : Cg} (hc : cs[i]? = some c) (hk : ∀ j, j < i → ∀ x, cs[j]? = some x → chE con h v err ans x = 0) (hb : chE con h v err ans c ≠ 0) : entsE con h v err ans cs = chE con h v err ans c := by
  induction cs generalizing i with
  | nil => simp at hc
  | cons a cs ih =>
    cases i with
    | zero =>
      simp only [List.getElem?_cons_zero, Option.some.injEq] at hc
      subst hc
      rw [entsE, if_neg hb]
    | succ i =>
      have h0 := hk 0 (by omega) a rfl
      rw [entsE, if_pos h0]
      exact ih (i := i) (by simpa using hc) (fun j hj x hx => hk (j + 1) (by omega) x (by simpa using hx))
theorem entsE_ok {cs : List Cg} (hk : ∀ (j : Nat) (x : Cg), cs[j]? = some x → chE con h v err ans x = 0) : entsE con h v err ans cs = 0 := by
  induction cs with
  | nil => rfl
  | cons a cs ih =>
    rw [entsE, if_pos (hk 0 a rfl)]
    exact ih fun j x hx => hk (j + 1) x (by simpa using hx)
end

set_option maxHeartbeats 2000000 in
theorem get_ok (s : Six) (a : Option Addr) (cap : Nat) (n : Nat) (no : Int) (w : World) :
    Calls Tryd.prog 9 #[entV s a n cap, .int .i64 no] w fun e w' => e = .returned (if no = 3 then .tuple #[entV s a n cap, .int .i64 0] else .tuple #[entV zero6 none 0 0, .int .i64 16]) ∧ Below w.heap.size w w' := by
  unfold entV
  obtain ⟨wa, hwa⟩ : ∃ wa, w.alloc (.cells (entCs s a n cap) 37) = wa := ⟨_, rfl⟩
  have hba : Below w.heap.size w wa := by rw [← hwa]; exact (Below.refl _ _).alloc (Nat.le_refl _) _
  have hza : wa.heap.size = w.heap.size + 1 := by rw [← hwa]; simp
  have box1 : EBox wa w.heap.size s a n cap := by rw [← hwa]; exact EBox.new _ _ _ _ _ _
  obtain ⟨wb, hwb⟩ : ∃ wb, wa.alloc (.cells (entCs zero6 none 0 0) 26) = wb := ⟨_, rfl⟩
  have hbb : Below wa.heap.size wa wb := by rw [← hwb]; exact (Below.refl _ _).alloc (Nat.le_refl _) _
  have hzb : wb.heap.size = wa.heap.size + 1 := by rw [← hwb]; simp
  have HO : Hid (OBox wb wa.heap.size) := by rw [← hwb]; exact OBox.new _ _
  have box1' := box1.after hbb
  have hbw : Below w.heap.size w wb := hba.trans (hbb.mono (by omega))
  have HZA := Lib.hid hza
  have HZB := Lib.hid hzb
  unfold entCs zero6 at hwb
  unfold entCs at hwa
  obtain ⟨p0, p1, p2, p3, p4, p5, p6⟩ := id box1'
  obtain ⟨⟨o0, o1, o2, o3, o4, o5, o6⟩, f0, f1, f2, f3, f4, f5, f6⟩ := HO.out
  clear hza hzb box1 box1'
  by_cases h3 : no = 3
  · subst h3
    go_enter Tryd.func9, Tryd.ntmps9
    go_wp2_with fail
    refine bodyPost_ret (v := .tuple #[entV s a n cap, .int .i64 0]) ?_ rfl ?_
    · simp [results, Tryd.results9, go_sem, o0, o1, o2, o3, o4, o5, o6, entV, zero6]
    · exact ⟨rfl, below_set7 hbw (by have := HZA.out; omega) _ _ _ _ _ _ _⟩
  · go_enter Tryd.func9, Tryd.ntmps9
    go_wp2_with fail
    refine bodyPost_ret (v := .tuple #[entV zero6 none 0 0, .int .i64 16]) ?_ rfl ?_
    · simp [results, Tryd.results9, go_sem, o0, o1, o2, o3, o4, o5, o6, entV, zero6]
    · exact ⟨rfl, below_set7 hbw (by have := HZA.out; omega) _ _ _ _ _ _ _⟩
def oneErr (no : Int) : Int := if no = 3 then 0 else 16
theorem one_getter (x : En) (w : World) (hx : EnOk w x) : Getter 9 (entV x.s x.a x.ls.length x.cap) oneErr (fun _ => x.p) w := by
  refine ⟨enters_of Tryd.func9 (by kernel_rfl) rfl, fun W hW no => (get_ok x.s x.a x.cap x.ls.length no W).mono ?_⟩
  rintro e W' ⟨rfl, hb⟩
  unfold oneErr
  by_cases h : no = 3
  · rw [if_pos h, if_pos h]
    exact ⟨x, rfl, (hx.after hW).after hb, fun _ => rfl, hb⟩
  · rw [if_neg h, if_neg h]
    exact ⟨zeroEn, rfl, zeroEn_ok _, (fun h => by cases h), hb⟩

end Go.Proofs.YtmjgcenhgpkhiaaDoor
