/- Package agenda: the pile's Push. -/
import Derived.Test.YtgcncnmkfpfccaaAgE
import Derived.Test.YtgcncnmkfpfccaaHeldT
import Derived.Deep.AppendLies
namespace Go.Proofs.Ytgcncnmkfpfccaa
open Go.RowKit Go.Sort Go.Shelf
set_option linter.unusedVariables false
set_option linter.unusedSimpArgs false
attribute [local go_sem ↓] Go.wp_at_zero Go.wp_at_succ

theorem ownsRow_after {w w' : World} {base size n : Nat} {e : TypeId} {v : Value} {cs : List Value} (h : w.ownsRow base e size v n cs) (hb : RowKit.Below w.heap.size w w') : w'.ownsRow base e size v n cs := (Turn.of_below (bs := []) hb).own h (by simp)
theorem ownsRow_down {w : World} {base base' size n : Nat} {e : TypeId} {v : Value} {cs : List Value} (h : w.ownsRow base e size v n cs) (hb : base' ≤ base) : w.ownsRow base' e size v n cs := ⟨h.1, h.2.imp id fun ⟨g, cap, cur, h1, h2, h3⟩ => ⟨g, cap, cur, h1, Nat.le_trans hb h2, h3⟩⟩
theorem assertIt (d n t : Int) (w : World) : (Instr.typeAssert (.iface 31 (.agg #[.int .i64 d, .int .i64 n, .int .i64 t])) 20 31 false).run Try.prog w = .ok (.agg #[.int .i64 d, .int .i64 n, .int .i64 t]) w := by kernel_rfl
def PushEnd (w : World) (base B bm : Nat) (sv : Value) (L : List It) (N : Int) (e : Ending) (w' : World) : Prop :=
  ∃ sv', e = .returned (.tuple #[]) ∧ PAt w' base B bm sv' L N ∧ Turn (PAt.bs B bm sv) w w' ∧ ∀ g, sv'.ownBlock = some g → sv.ownBlock = some g ∨ w.heap.size ≤ g
theorem plcs_push {w : World} {bm : Nat} {L : List It} {x : It} (hn : Nos (L ++ [x])) (h : MapAt OkN w bm ((.int .i64 x.n, .int .i64 (L.length : Int)) :: lessKey (.int .i64 x.n) (plcs L))) : MapAt OkN w bm (plcs (L ++ [x])) := by
  refine h.congr (plcs_perm h.nodup hn fun p => ?_)
  rw [List.mem_cons, mem_lessKey, plcs_mem, plcs_mem]
  have hx : (L ++ [x])[L.length]? = some x := by simp
  constructor
  · rintro (rfl | ⟨⟨j, z, hz, rfl⟩, h2⟩)
    · exact ⟨L.length, x, hx, rfl⟩
    · exact ⟨j, z, by rw [List.getElem?_append_left (List.getElem?_eq_some_iff.1 hz).1]; exact hz, rfl⟩
  · rintro ⟨j, z, hz, rfl⟩
    rcases Nat.lt_trichotomy j L.length with h1 | h1 | h1
    · refine Or.inr ⟨⟨j, z, by rwa [List.getElem?_append_left h1] at hz, rfl⟩, fun e => ?_⟩
      have := hn.one hz hx (by simpa using e)
      omega
    · subst h1
      rw [hx] at hz
      cases hz
      exact Or.inl rfl
    · rw [List.getElem?_eq_none (by simp; omega)] at hz
      cases hz
set_option maxHeartbeats 4000000 in
set_option maxRecDepth 100000 in
theorem ppush_ok (base B bm : Nat) (sv : Value) (L : List It) (N : Int) (x : It) (hn : Nos (L ++ [x])) (hx : (Lit.int .i64 x.n).wf = true) (hl : L.length ≤ 1000000) (w : World) (hbase : base ≤ w.heap.size) (h : PAt w base B bm sv L N) :
    Calls Try.prog 84 #[.pointer (some ⟨B, 0, none⟩), .iface 31 (.agg (encI x).toArray)] w (PushEnd w base B bm sv (L ++ [x]) N) := by
  obtain ⟨v0, hv, hv0, hv1, hv2⟩ := info_parts infoIt
  have hmx : Try.prog.follows .mixedOrders = true := by kernel_rfl
  have hBl := h.blk.lt
  have hne := h.ne
  have hlt : ∀ g, sv.ownBlock = some g → g < w.heap.size := fun g hg => (own_cells h.own hg).2.1
  obtain ⟨a, cap, rfl, _⟩ := owned_recs (enc := encI) (size := 3) (fun _ => rfl) h.own rfl
  obtain ⟨xd, xn, xt⟩ := x
  dsimp only [encI] at hx ⊢
  obtain ⟨w0, hw0⟩ : ∃ W, w.alloc (.cells #[.int .i64 xd, .int .i64 xn, .int .i64 xt] 31) = W := ⟨_, rfl⟩
  have hb0 : Below w.heap.size w w0 := by rw [← hw0]; exact (Below.refl _ _).alloc (Nat.le_refl _) _
  have KX : Blk w0 w.heap.size #[.int .i64 xd, .int .i64 xn, .int .i64 xt] 31 := by rw [← hw0]; exact Blk.new _ _ _
  have h0 := h.after hb0
  have c0 : w0.cell? ⟨B, 0, none⟩ = some (.slice a L.length cap) := h0.blk.cell 0 rfl
  have c1 : w0.cell? ⟨B, 1, none⟩ = some (.map (some bm)) := h0.blk.cell 1 rfl
  have x1 : w0.cell? ⟨w.heap.size, 1, none⟩ = some (.int .i64 xn) := KX.cell 1 rfl
  have HH := Lib.hid h0
  have HKX := Lib.hid KX
  have HN := Lib.hid hn
  have HW0 := Lib.hid hw0
  have z0 : w0.heap.size = w.heap.size + 1 := by rw [← hw0]; simp
  have HB0 := Lib.hid hb0
  have hta := fun w => assertIt xd xn xt w
  clear hw0 h h0 KX hn hb0
  go_enter Try.func84, Try.ntmps84
  go_wp2_with fail
  rw [HW0.out]
  go_still_tail 11, hmx
  refine wpList_store _ rfl _ _ _ 61 rfl keyN Try.underlying61 rfl (HH.out.after ((Below.refl _ _).drew)).map (.int .i64 xn) (.int .i64 (L.length : Int)) rfl rfl ⟨_, rfl, hx⟩ ?_
  intro w3 hm3 hg3 hs3
  have hd0 : Below w0.heap.size w0 w0.drew := (Below.refl _ _).drew
  have hg3' : w0.drew.grownBy w3 (some bm) := hg3
  have hd := HH.out.after hd0
  have o3 : w3.ownsRow base 31 3 (.slice a L.length cap) L.length (cellsL encI L) := own_kept hd.own hg3' (fun g hg e => by have := (hne.2 g hg).2; simp only [Option.some.injEq] at e; omega)
  have k3 : Blk w3 B #[.slice a L.length cap, .map (some bm), .int .i64 N] 65 := hd.blk.grown hg3' (fun e => by simp only [Option.some.injEq] at e; exact hne.1 e.symm)
  have x3 : Blk w3 w.heap.size #[.int .i64 xd, .int .i64 xn, .int .i64 xt] 31 := (HKX.out.after hd0).grown hg3' (fun e => by simp only [Option.some.injEq] at e; have := HH.out.map.lt; have hm := HH.out.map; obtain ⟨es, cc, hm1, _⟩ := hm; have hk : w0.heap[w.heap.size]? = _ := HKX.out; rw [← e, hm1] at hk; cases hk)
  have ht3 : Turn (PAt.bs B bm (.slice a L.length cap)) w w3 := ((Turn.of_below HB0.out).trans (Turn.of_below hd0 |> fun h => (⟨h.os, h.tape, h.output, h.size, h.block⟩ : Turn _ _ _))).trans (Turn.of_grown hg3' (by simp [PAt.bs]))
  have hC : ∀ W, Below w3.heap.size w3 W → W.cell? ⟨B, 0, none⟩ = some (.slice a L.length cap) ∧ W.cell? ⟨w.heap.size, 0, none⟩ = some (.int .i64 xd) ∧ W.cell? ⟨w.heap.size, 1, none⟩ = some (.int .i64 xn) ∧ W.cell? ⟨w.heap.size, 2, none⟩ = some (.int .i64 xt) := fun W hW => ⟨below_cell hW (k3.cell 0 rfl), below_cell hW (x3.cell 0 rfl), below_cell hW (x3.cell 1 rfl), below_cell hW (x3.cell 2 rfl)⟩
  have HC := Lib.hid hC
  have HT3 := Lib.hid ht3
  have HO3 := Lib.hid o3
  have HK3 := Lib.hid k3
  have HX3 := Lib.hid x3
  have HM3 := Lib.hid hm3
  have bd : Below w3.heap.size w3 w3.drew := (Below.refl _ _).drew
  have z3 : w3.heap.size = w.heap.size + 1 := by have h1 : w3.heap.size = w0.heap.size := hs3; omega
  have hbl3 : B < w3.heap.size := k3.lt
  clear hd0 hg3 hg3' hd o3 k3 x3 ht3 hC hm3 hs3 c0 c1 x1 hta HW0
  go_wp2_with fail
  refine wp_region_final (fun W => W.cell? ⟨B, 0, none⟩ = some (.slice a L.length cap) ∧ W.cell? ⟨w.heap.size, 0, none⟩ = some (.int .i64 xd) ∧ W.cell? ⟨w.heap.size, 1, none⟩ = some (.int .i64 xn) ∧ W.cell? ⟨w.heap.size, 2, none⟩ = some (.int .i64 xt)) 10 (by kernel_rfl) ?_
  have hSd := HC.out _ bd
  obtain ⟨wq, hwq⟩ : ∃ W, w3.drew = W := ⟨_, rfl⟩
  rw [hwq] at bd hSd ⊢
  clear hwq
  refine fT_take (i := 0) (v := ?_) rfl (by kernel_rfl) (fun _ _ _ h => h) (by rfl) hSd ?_ ?_
  rotate_left 1
  · intro wS hSw
    obtain ⟨s1, s2, s3, s4⟩ := hSw
    go_simp
    try with_reducible rfl
  try simp only [Act.put, List.setIfInBounds_toArray, List.set_cons_zero, List.set_cons_succ]
  refine fT_take (i := 1) (v := ?_) rfl (by kernel_rfl) (fun _ _ _ h => h) (by rfl) hSd ?_ ?_
  rotate_left 1
  · intro wS hSw
    obtain ⟨s1, s2, s3, s4⟩ := hSw
    go_simp
    try with_reducible rfl
  try simp only [Act.put, List.setIfInBounds_toArray, List.set_cons_zero, List.set_cons_succ]
  refine fT_take (i := 2) (v := ?_) rfl (by kernel_rfl) (fun _ _ _ h => h) (by rfl) hSd ?_ ?_
  rotate_left 1
  · intro wS hSw
    obtain ⟨s1, s2, s3, s4⟩ := hSw
    go_simp
    try with_reducible rfl
  try simp only [Act.put, List.setIfInBounds_toArray, List.set_cons_zero, List.set_cons_succ]
  refine fT_take (i := 3) (v := ?_) rfl (by kernel_rfl) (fun _ _ _ h => h) (by rfl) hSd ?_ ?_
  rotate_left 1
  · intro wS hSw
    obtain ⟨s1, s2, s3, s4⟩ := hSw
    go_simp
    try with_reducible rfl
  try simp only [Act.put, List.setIfInBounds_toArray, List.set_cons_zero, List.set_cons_succ]
  refine fT_take (i := 4) (v := ?_) rfl (by kernel_rfl) (fun _ _ _ h => h) (by rfl) hSd ?_ ?_
  rotate_left 1
  · intro wS hSw
    obtain ⟨s1, s2, s3, s4⟩ := hSw
    go_simp
    try with_reducible rfl
  try simp only [Act.put, List.setIfInBounds_toArray, List.set_cons_zero, List.set_cons_succ]
  refine fT_take (i := 5) (v := ?_) rfl (by kernel_rfl) (fun _ _ _ h => h) (by rfl) hSd ?_ ?_
  rotate_left 1
  · intro wS hSw
    obtain ⟨s1, s2, s3, s4⟩ := hSw
    go_simp
    try with_reducible rfl
  try simp only [Act.put, List.setIfInBounds_toArray, List.set_cons_zero, List.set_cons_succ]
  have bA : Below w3.heap.size w3 (wq.alloc (.cells #[.int .i64 xd, .int .i64 xn, .int .i64 xt] 31)) := bd.trans ((Below.refl _ _).alloc bd.size _)
  refine wpAnyF_next (i := 6) rfl (by kernel_rfl) (fun K hK => ?_)
  go_simp
  refine hK.out _ _ (.inr (HC.out _ bA)) ?_
  clear hK K
  try simp only [Act.put, List.setIfInBounds_toArray, List.set_cons_zero, List.set_cons_succ]
  refine wpAnyF_next (i := 7) rfl (by kernel_rfl) (fun K hK => ?_)
  have hcA : (wq.alloc (.cells #[.int .i64 xd, .int .i64 xn, .int .i64 xt] 31)).ownsRow base 31 3 (.slice a L.length cap) L.length (cellsL encI L) := ownsRow_after HO3.out bA
  refine step_append_lies _ (by rfl) _ _ _ (by rfl) base 31 v0 _ 3 24 Try.underlying47 hv hv0 hv1 hv2 rfl (by omega) _ L.length _ (by rfl) hcA ⟨wq.heap.size, 0, none⟩ 1 1 [.int .i64 xd, .int .i64 xn, .int .i64 xt] (by rfl) (by rfl) (World.news_of_block (cs := #[.int .i64 xd, .int .i64 xn, .int .i64 xt]) (t := 31) (fr := (0, 0)) (heap_alloc_new wq _)) (by simp [Value.oneCell']) (by omega) (by unfold maxLen; omega) (by omega) (by have := bA.size; omega) _ rfl ?_
  intro g c3 wG hown hgrow hat hgt
  have kG : Blk wG B #[.slice a L.length cap, .map (some bm), .int .i64 N] 65 := (HK3.out.after bA).grown hgrow (fun e => (hne.2 _ e).1 rfl)
  have kX : Blk wG w.heap.size #[.int .i64 xd, .int .i64 xn, .int .i64 xt] 31 := (HX3.out.after bA).grown hgrow (fun e => by have := hlt _ e; omega)
  have m0 : wG.cell? ⟨B, 0, none⟩ = some (.slice a L.length cap) := kG.cell 0 rfl
  have mf := kG.free 0
  have hSG : (fun W => W.cell? ⟨B, 0, none⟩ = some (.slice a L.length cap) ∧ W.cell? ⟨w.heap.size, 0, none⟩ = some (.int .i64 xd) ∧ W.cell? ⟨w.heap.size, 1, none⟩ = some (.int .i64 xn) ∧ W.cell? ⟨w.heap.size, 2, none⟩ = some (.int .i64 xt)) wG := ⟨m0, kX.cell 0 rfl, kX.cell 1 rfl, kX.cell 2 rfl⟩
  dsimp only at hSG
  have hmG : MapAt OkN wG bm ((.int .i64 xn, .int .i64 (L.length : Int)) :: lessKey (.int .i64 xn) (plcs L)) := (HM3.out.after bA).kept hgrow (fun e => (hne.2 _ e).2 rfl)
  have HFin : Hid (PushEnd w base B bm (.slice a L.length cap) (L ++ [⟨xd, xn, xt⟩]) N (.returned (.tuple #[])) (wG.setCell ⟨B, 0, none⟩ (.slice (some ⟨g, 0, none⟩) (L.length + 1) c3))) := by
    have hbm : B ≠ bm := hne.1
    refine ⟨.slice (some ⟨g, 0, none⟩) (L.length + 1) c3, rfl, ⟨kG.set 0 _, ?_, ?_, HH.out.hB, HH.out.hm⟩, ?_, fun x e => ?_⟩
    · have h1 := hown.kept (grown_setCell wG B 0 (.slice (some ⟨g, 0, none⟩) (L.length + 1) c3)) (Or.inr (by have := kG.own_ne hown (by decide); simpa using this))
      rw [List.length_append, cellsL_snoc]
      exact h1
    · exact (plcs_push HN.out hmG).kept (grown_setCell wG B 0 _) (by simpa using hbm)
    · refine (((HT3.out.trans (Turn.of_below bA)).trans ⟨hgrow.os, hgrow.tape, hgrow.output, hgrow.size, fun k hk hn => hgrow.block k hk fun e => hn ?_⟩)).trans (Turn.of_grown (grown_setCell wG B 0 _) (by simp [PAt.bs]))
      unfold PAt.bs
      rw [← e]
      simp
    · simp only [Value.ownBlock, Option.some.injEq] at e
      subst e
      rcases hat with h | h
      · exact Or.inl h
      · have := bA.size
        exact Or.inr (by omega)
  refine hK.out _ _ (.inr hSG) ?_
  clear hK K hown hat hgt kX kG hmG
  try simp only [Act.put, List.setIfInBounds_toArray, List.set_cons_zero, List.set_cons_succ]
  refine wpAnyF_next (i := 8) rfl (by kernel_rfl) (fun K hK => ?_)
  go_simp
  refine hK.out _ _ (.inr hSG) ?_
  clear hK K
  try simp only [Act.put, List.setIfInBounds_toArray, List.set_cons_zero, List.set_cons_succ]
  refine wpAnyF_next (i := 9) rfl (by kernel_rfl) (fun K hK => ?_)
  go_simp
  refine hK.out _ _ (.inr hSG) ?_
  clear hK K
  try simp only [Act.put, List.setIfInBounds_toArray, List.set_cons_zero, List.set_cons_succ]
  refine wpAnyF_next (i := 10) rfl (by kernel_rfl) (fun K hK => ?_)
  go_simp
  refine hK.out _ _ (.inl rfl) ?_
  clear hK K
  try simp only [Act.put, List.setIfInBounds_toArray, List.set_cons_zero, List.set_cons_succ]
  refine wpAnyF_done (by kernel_rfl) ?_ _
  go_wp2_with fail
  go_end0
  exact HFin.out

end Go.Proofs.Ytgcncnmkfpfccaa
