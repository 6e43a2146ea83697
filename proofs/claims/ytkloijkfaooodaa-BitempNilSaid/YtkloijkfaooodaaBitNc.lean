/- Package bitemp: Copy. -/
import Derived.Test.YtkloijkfaooodaaBitNa
import Derived.Deep.RegionHeld3
import Derived.Deep.DrawnRows
namespace Go.Proofs.Ytkloijkfaooodaa
open Go.RowKit Go.Shelf
set_option linter.unusedVariables false
set_option linter.unusedSimpArgs false

theorem own_low {w : World} {base base' size n : Nat} {e : TypeId} {v : Value} {xs : List Value} (h : w.ownsRow base e size v n xs) (hb : base' ≤ base) : w.ownsRow base' e size v n xs := by
  obtain ⟨h1, h2⟩ := h
  refine ⟨h1, ?_⟩
  rcases h2 with h | ⟨g, cap, cur, h3, h4, h5⟩
  · exact .inl h
  · exact .inr ⟨g, cap, cur, h3, Nat.le_trans hb h4, h5⟩
def CloneSEnd (W : World) (V : List Vs) (en : Ending) (w' : World) : Prop :=
  ∃ a cap, en = .returned (.slice a V.length cap) ∧ w'.ownsRow W.heap.size 26 7 (.slice a V.length cap) V.length (cellsL encS V) ∧ RowKit.Below W.heap.size W w'
theorem cloneS_ok (base : Nat) (sv : Value) (V : List Vs) (W : World) (ho : W.ownsRow base 26 7 sv V.length (cellsL encS V)) (hl : V.length ≤ 2513169434910) :
    Calls Try.prog 53 #[sv] W (CloneSEnd W V) := by
  refine (cloneVer_ok base sv _ _ W ho (by omega) (cellsL_len (enc := encS) (size := 7) (fun _ => rfl) V) (cellsL_one encS_one V)).mono ?_
  rintro e w' ⟨v, rfl, h1, h2⟩
  obtain ⟨a, cap, rfl, _⟩ := owned_recs (enc := encS) (size := 7) (fun _ => rfl) h1 rfl
  exact ⟨a, cap, rfl, h1, h2⟩
def CopySEnd (w : World) (base : Nat) (V : List Vs) (e : Ending) (w' : World) : Prop :=
  ∃ p bm sv, e = .returned (.pointer (some ⟨p, 0, none⟩)) ∧ StAt w' base p bm sv V ∧ RowKit.Below w.heap.size w w' ∧ ∀ b ∈ StAt.bs p bm sv, w.heap.size ≤ b
set_option maxHeartbeats 4000000 in
set_option maxRecDepth 100000 in
theorem bcopy_ok (base p bm : Nat) (sv : Value) (V : List Vs) (w : World) (hbase : base ≤ w.heap.size) (h : StAt w base p bm sv V) (hl : V.length ≤ 2513169434910) :
    Calls Try.prog 35 #[.pointer (some ⟨p, 0, none⟩)] w (CopySEnd w base V) := by
  have HF := Lib.hid h
  obtain ⟨E, hE⟩ := h.map
  have HE := Lib.hid hE
  have HPL : Hid (∀ W, RowKit.Below w.heap.size w W → PlAt W base bm V E) := fun W hW => HE.out.turn (bs := []) (Turn.of_below hW) (by simp) (by simp)
  have HCV : Hid (∀ W, RowKit.Below w.heap.size w W → Calls Try.prog 53 #[sv] W (CloneSEnd W V)) := fun W hW => cloneS_ok base sv V W (HF.out.after hW).own hl
  have HCM : Hid (∀ W, RowKit.Below w.heap.size w W → Calls Try.prog 54 #[.map (some bm)] W (CloneMEnd W (E.map entP))) := fun W hW => cloneP_ok bm _ W (HPL.out W hW).map
  have HS : Hid (∀ w' : World, RowKit.Below w.heap.size w w' → w'.cell? ⟨p, 0, none⟩ = some sv ∧ w'.cell? ⟨p, 1, none⟩ = some (.map (some bm))) := fun w' hW => ⟨(HF.out.after hW).blk.cell 0 rfl, (HF.out.after hW).blk.cell 1 rfl⟩
  clear h hE
  go_enter Try.func35, Try.ntmps35
  go_wp2_with fail
  go_region_held3 (fun w' => w'.cell? ⟨p, 0, none⟩ = some sv ∧ w'.cell? ⟨p, 1, none⟩ = some (.map (some bm)))
    (first | with_reducible exact HS.out _ (RowKit.Below.refl _ _).drew | with_reducible exact HS.out _ hB5 | with_reducible exact HS.out _ hB6 | go_keep)
    (first
      | (go_at_call 53; (with_reducible refine (HCV.out w.drew (RowKit.Below.refl _ _).drew).mono ?_); rintro e w5 ⟨a5, c5, rfl, hm5, hb5⟩; have hB5 : RowKit.Below w.heap.size w w5 := (RowKit.Below.refl _ w).drew.trans hb5; have hn5 : w5.ownsRow w.heap.size 26 7 (.slice a5 V.length c5) V.length (cellsL encS V) := hm5)
      | (go_at_call 54; (with_reducible refine (HCM.out w.drew (RowKit.Below.refl _ _).drew).mono ?_); rintro e w6 ⟨b6, rfl, hm6, hb6, hz6⟩; have hB6 : RowKit.Below w.heap.size w w6 := (RowKit.Below.refl _ w).drew.trans hb6; have hq6 : w.heap.size ≤ b6 := hz6)
      | (go_at_call 53; (with_reducible refine (HCV.out _ hB6).mono ?_); rintro e w5 ⟨a5, c5, rfl, hm5, hb5⟩; have hB5 : RowKit.Below w.heap.size w w5 := hB6.trans (hb5.mono hB6.size); have hn5 : w5.ownsRow w.heap.size 26 7 (.slice a5 V.length c5) V.length (cellsL encS V) := own_low hm5 hB6.size)
      | (go_at_call 54; (with_reducible refine (HCM.out _ hB5).mono ?_); rintro e w6 ⟨b6, rfl, hm6, hb6, hz6⟩; have hB6 : RowKit.Below w.heap.size w w6 := hB5.trans (hb6.mono hB5.size); have hq6 : w.heap.size ≤ b6 := Nat.le_trans hB5.size hz6))
  have z5 := hB5.size
  have z6 := hB6.size
  have ha : RowKit.Below w6.heap.size w6 (w6.alloc (.cells #[.slice a5 V.length c5, .map (some b6)] 83)) := (RowKit.Below.refl _ _).alloc (Nat.le_refl _) _
  have hm5' : (w6.alloc (.cells #[.slice a5 V.length c5, .map (some b6)] 83)).ownsRow w.heap.size 26 7 (.slice a5 V.length c5) V.length (cellsL encS V) := (own_after (own_after hn5 hb6) ha)
  have hFIN : Hid (StAt (w6.alloc (.cells #[.slice a5 V.length c5, .map (some b6)] 83)) base w6.heap.size b6 (.slice a5 V.length c5) V) :=
    ⟨Blk.new _ _ _, own_low hm5' hbase, ⟨E, hm6.after ha, (HPL.out _ (hB6.trans (ha.mono z6))).own, (HPL.out _ hB6).all⟩, by omega, by omega⟩
  have HBF := Lib.hid (hB6.trans (ha.mono z6))
  have hbs : ∀ b ∈ StAt.bs w6.heap.size b6 (.slice a5 V.length c5), w.heap.size ≤ b := fun b hb => by
    unfold StAt.bs at hb
    rcases List.mem_cons.1 hb with rfl | hb
    · omega
    · rcases List.mem_cons.1 hb with rfl | hb
      · omega
      · exact (own_cells hm5' (Option.mem_toList.1 hb)).1
  have HBS := Lib.hid hbs
  clear hn5 hq6 hm5 hm6 hb5 hb6 hB5 hB6 ha hm5' hbs
  go_wp2_with fail
  go_ret
  exact ⟨w6.heap.size, b6, _, rfl, hFIN.out, HBF.out, HBS.out⟩

end Go.Proofs.Ytkloijkfaooodaa
