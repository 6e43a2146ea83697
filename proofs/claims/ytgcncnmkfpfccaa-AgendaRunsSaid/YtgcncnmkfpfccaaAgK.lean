/- Package agenda: an agenda in memory, as its items in order; New, Len, Next, Put, Take. -/
import Derived.Test.YtgcncnmkfpfccaaAgJ
namespace Go.Proofs.Ytgcncnmkfpfccaa
open Go.RowKit Go.Sort Go.Shelf
set_option linter.unusedVariables false
set_option linter.unusedSimpArgs false

/-- An agenda in memory: S are its items, in order. -/
structure AgAt (w : World) (base B bm : Nat) (sv : Value) (S : List It) (N : Int) : Prop where
  ex : ∃ L, PAt w base B bm sv L N ∧ HeapG (gK L) L.length ∧ L.Perm S
  ra : Rising It.ky S
  no : ∀ x ∈ S, 0 ≤ x.n ∧ x.n < N
  n0 : 0 ≤ N
theorem AgAt.turn {w w' : World} {base B bm : Nat} {sv : Value} {S : List It} {N : Int} {bs : List Nat} (h : AgAt w base B bm sv S N) (ht : Turn bs w w') (h1 : ∀ b ∈ PAt.bs B bm sv, b ∉ bs) : AgAt w' base B bm sv S N := by
  obtain ⟨L, hP, hG, hp⟩ := h.ex
  exact ⟨⟨L, hP.turn ht (h1 B (by simp [PAt.bs])) (h1 bm (by simp [PAt.bs])) (fun g hg => h1 g (by unfold PAt.bs; rw [hg]; simp)), hG, hp⟩, h.ra, h.no, h.n0⟩
theorem AgAt.after {w w' : World} {base B bm : Nat} {sv : Value} {S : List It} {N : Int} (h : AgAt w base B bm sv S N) (hb : Below w.heap.size w w') : AgAt w' base B bm sv S N := h.turn (bs := []) (Turn.of_below hb) (by simp)
theorem AgAt.nos {w : World} {base B bm : Nat} {sv : Value} {S : List It} {N : Int} (h : AgAt w base B bm sv S N) : Nos S := by
  obtain ⟨L, hP, _, hp⟩ := h.ex
  exact hP.nos.perm hp.symm
theorem AgAt.bs_lt {w : World} {base B bm : Nat} {sv : Value} {S : List It} {N : Int} (h : AgAt w base B bm sv S N) : ∀ b ∈ PAt.bs B bm sv, base ≤ b ∧ b < w.heap.size := fun b hb => by
  obtain ⟨L, hP, _, _⟩ := h.ex
  unfold PAt.bs at hb
  rcases List.mem_cons.1 hb with rfl | hb
  · exact ⟨hP.hB, hP.blk.lt⟩
  · rcases List.mem_cons.1 hb with rfl | hb
    · exact ⟨hP.hm, hP.map.lt⟩
    · have := own_cells hP.own (Option.mem_toList.1 hb)
      exact ⟨this.1, this.2.1⟩
/-- What a call on an agenda leaves. -/
structure AgEnd (w : World) (base B bm : Nat) (sv : Value) (S : List It) (N : Int) (w' : World) : Prop where
  ex : ∃ sv', AgAt w' base B bm sv' S N ∧ ∀ g, sv'.ownBlock = some g → sv.ownBlock = some g ∨ w.heap.size ≤ g
  turn : Turn (PAt.bs B bm sv) w w'
theorem AgEnd.same {w w' : World} {base B bm : Nat} {sv : Value} {S : List It} {N : Int} (h : AgAt w base B bm sv S N) (hb : Below w.heap.size w w') : AgEnd w base B bm sv S N w' := ⟨⟨sv, h.after hb, fun g hg => Or.inl hg⟩, Turn.of_below hb⟩

theorem putK_new {S : List It} {x : It} (h : Rising It.ky S) (hx : ∀ z ∈ S, z.ky ≠ x.ky) : (putK It.ky S x).Perm (x :: S) := by
  refine (List.perm_ext_iff_of_nodup (putK_rising h).nodup ?_).2 fun z => ?_
  · rw [List.nodup_cons]
    exact ⟨fun hm => hx x hm rfl, h.nodup⟩
  · rw [putK_mem h, List.mem_cons]
    exact ⟨fun e => e.imp id (fun e => e.1), fun e => e.imp id (fun e => ⟨e, hx z e⟩)⟩
theorem wf_of {n : Int} (h1 : -9223372036854775808 ≤ n) (h2 : n ≤ 9223372036854775807) : (Lit.int .i64 n).wf = true := by
  simp [Lit.wf, IntKind.min, IntKind.max, IntKind.signed, IntKind.bits]
  exact ⟨h1, h2⟩

def NewAgEnd (w : World) (base : Nat) (e : Ending) (w' : World) : Prop :=
  ∃ B bm, e = .returned (.pointer (some ⟨B, 0, none⟩)) ∧ AgAt w' base B bm (.slice none 0 0) [] 0 ∧ Below w.heap.size w w' ∧ w.heap.size ≤ B ∧ w.heap.size ≤ bm
theorem anew_ok (base : Nat) (w : World) (hbase : base ≤ w.heap.size) : Calls Try.prog 9 #[] w (NewAgEnd w base) := by
  have hmm := @run_makeMap Try.prog
  go_enter Try.func9, Try.ntmps9
  go_wp2
  go_ret
  have b1 : Below w.heap.size w (w.alloc (.map #[] 0)) := (Below.refl _ _).alloc (Nat.le_refl _) _
  have m1 : MapAt OkN (w.alloc (.map #[] 0)) w.heap.size [] := MapAt.made OkN w
  refine ⟨w.heap.size + 1, w.heap.size, rfl, ⟨⟨[], ⟨?_, World.ownsRow_nil _ _ _ _, m1.after ((Below.refl _ _).alloc (Nat.le_refl _) _), by omega, hbase⟩, fun c h0 hc => absurd hc (by simp), List.Perm.refl _⟩, Rising.nil, fun x h => (by cases h), Int.le_refl _⟩, b1.alloc (by simp) _, by omega, Nat.le_refl _⟩
  have := Blk.new (w.alloc (.map #[] 0)) #[.slice none 0 0, .map (some w.heap.size), .int .i64 0] 65
  simpa using this
theorem alen_ok (base B bm : Nat) (sv : Value) (S : List It) (N : Int) (w : World) (h : AgAt w base B bm sv S N) : Calls Try.prog 16 #[.pointer (some ⟨B, 0, none⟩)] w fun e w' => e = .returned (.int .i64 S.length) ∧ w' = w := by
  obtain ⟨L, hP, _, hp⟩ := h.ex
  have HP := Lib.hid hP
  rw [← hp.length_eq]
  clear h hP hp
  go_enter Try.func16, Try.ntmps16
  go_wp2_with fail
  with_reducible refine (plen_ok base B bm sv L N w HP.out).mono ?_
  rintro e w1 ⟨rfl, rfl⟩
  go_wp2_with fail
  go_ret
  exact ⟨rfl, rfl⟩
/-- May a day be? -/
def dayB (d : Int) : Bool := decide (0 ≤ d) && decide (d ≤ 73048)
theorem right_ok (d : Int) (w : World) : Calls Try.prog 30 #[.int .i64 d] w fun e w' => e = .returned (.bool (dayB d)) ∧ w' = w := by
  unfold dayB
  by_cases h : 0 ≤ d
  · have e1 : decide (0 ≤ d) = true := decide_eq_true h
    clear h
    go_enter Try.func30, Try.ntmps30
    go_wp2_with fail
    go_ret
    exact ⟨by rw [e1]; simp, rfl⟩
  · have e1 : decide (0 ≤ d) = false := decide_eq_false h
    clear h
    go_enter Try.func30, Try.ntmps30
    go_wp2_with fail
    go_ret
    exact ⟨by rw [e1]; simp, rfl⟩

/-- The first item of a heap is the first one in order. -/
theorem heap_head {L : List It} {x : It} {S : List It} (hG : HeapG (gK L) L.length) (hp : L.Perm (x :: S)) (hr : Rising It.ky (x :: S)) : L[0]? = some x := by
  have hl : 0 < L.length := by rw [hp.length_eq]; simp
  have h0 := List.getElem?_eq_getElem hl
  obtain ⟨j, hj, e⟩ := List.getElem_of_mem (hp.mem_iff.2 (List.mem_cons_self (a := x) (l := S)))
  have hm := hG.min j hj
  rw [gK_at (by rw [List.getElem?_eq_getElem hj, e]), gK_at h0] at hm
  rcases List.mem_cons.1 (hp.mem_iff.1 (List.getElem_mem hl)) with e1 | e1
  · rw [h0, e1]
  · exact absurd ((List.pairwise_cons.1 hr).1 _ e1) hm
def nextV (S : List It) : Value := match S with
  | [] => .tuple #[.agg #[.int .i64 0, .int .i64 0, .int .i64 0], .bool false]
  | x :: _ => .tuple #[.agg (encI x).toArray, .bool true]
set_option maxHeartbeats 1000000 in
theorem next_ok (base B bm : Nat) (sv : Value) (S : List It) (N : Int) (w : World) (h : AgAt w base B bm sv S N) : Calls Try.prog 19 #[.pointer (some ⟨B, 0, none⟩)] w fun e w' => e = .returned (nextV S) ∧ Below w.heap.size w w' := by
  obtain ⟨L, hP, hG, hp⟩ := h.ex
  cases S with
  | nil =>
    have hL : L = [] := List.Perm.eq_nil hp
    subst hL
    obtain ⟨a, cap, rfl, _⟩ := owned_recs (enc := encI) (size := 3) (fun _ => rfl) hP.own rfl
    have bz : Below w.heap.size w (w.alloc (.cells #[.int .i64 0, .int .i64 0, .int .i64 0] 31)) := (Below.refl _ _).alloc (Nat.le_refl _) _
    have c0 : (w.alloc (.cells #[.int .i64 0, .int .i64 0, .int .i64 0] 31)).cell? ⟨B, 0, none⟩ = some (.slice a 0 cap) := below_cell bz (hP.blk.cell 0 rfl)
    clear bz
    clear h hP hG hp
    go_enter Try.func19, Try.ntmps19
    go_wp2_with fail
    refine bodyPost_ret (v := .tuple #[.agg #[.int .i64 0, .int .i64 0, .int .i64 0], .bool false]) (by simp [results, Try.results19, go_sem]) rfl ?_
    exact ⟨rfl, (Below.refl _ _).alloc (Nat.le_refl _) _⟩
  | cons x S =>
    have hx := heap_head hG hp h.ra
    have hl := (List.getElem?_eq_some_iff.1 hx).1
    obtain ⟨g, cap, rfl, _, _, _, _, hc⟩ := row_parts hP.own rfl hl
    have bz : Below w.heap.size w (w.alloc (.cells #[.int .i64 0, .int .i64 0, .int .i64 0] 31)) := (Below.refl _ _).alloc (Nat.le_refl _) _
    obtain ⟨⟨a0, a1, a2⟩, _⟩ := hc 0 x hx
    replace a0 := below_cell bz a0
    replace a1 := below_cell bz a1
    replace a2 := below_cell bz a2
    simp only [Nat.zero_mul, Nat.zero_add] at a0 a1 a2
    have c0 : (w.alloc (.cells #[.int .i64 0, .int .i64 0, .int .i64 0] 31)).cell? ⟨B, 0, none⟩ = some (.slice (some ⟨g, 0, none⟩) L.length cap) := below_cell bz (hP.blk.cell 0 rfl)
    clear bz
    have e0 : ((L.length : Int) == 0) = false := by rw [beq_eq_false_iff_ne]; omega
    have e1 : (L.length == 0) = false := by rw [beq_eq_false_iff_ne]; omega
    have i2 : (0 : Int) < (L.length : Int) := by omega
    obtain ⟨xd, xn, xt⟩ := x
    clear h hP hG hp hc hx
    go_enter Try.func19, Try.ntmps19
    go_wp2_with fail
    refine bodyPost_ret (v := .tuple #[.agg #[.int .i64 xd, .int .i64 xn, .int .i64 xt], .bool true]) (by simp [results, Try.results19, go_sem]) rfl ?_
    exact ⟨rfl, (Below.refl _ _).alloc (Nat.le_refl _) _⟩

end Go.Proofs.Ytgcncnmkfpfccaa
