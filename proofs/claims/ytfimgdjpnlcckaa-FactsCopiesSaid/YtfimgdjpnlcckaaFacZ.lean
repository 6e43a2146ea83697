/- Package facts: Copy. -/
import Derived.Test.YtfimgdjpnlcckaaFacR
import Derived.Deep.RegionHeld3
import Derived.Deep.DrawnRows
namespace Go.Proofs.Ytfimgdjpnlcckaa
open Go.RowKit Go.Shelf
set_option linter.unusedVariables false
set_option linter.unusedSimpArgs false

def CloneEnd (W : World) (M : List (Value × Value)) (e : Ending) (w' : World) : Prop :=
  ∃ b, e = .returned (.map (some b)) ∧ MapAt OkPl w' b M ∧ Below W.heap.size W w' ∧ W.heap.size ≤ b
theorem cloneX_ok (B : Nat) (M : List (Value × Value)) (w : World) (h : MapAt OkPl w B M) :
    Calls Try.prog 30 #[.map (some B)] w (CloneEnd w M) := by
  obtain ⟨es, clock, hb, he⟩ := h
  have hcon : Calls Try.prog 30 _ _ _ := Go.Proofs.AnyW.maps_Clone Try.cloneX B es clock w hb
  refine hcon.mono ?_
  rintro e w' ⟨rfl, rfl⟩
  exact ⟨w.heap.size, rfl, ⟨es, clock, (MapKept.heap_alloc w _).1, he⟩, (Below.refl _ _).alloc (Nat.le_refl _) _, Nat.le_refl _⟩
theorem cloneH_ok (B : Nat) (M : List (Value × Value)) (w : World) (h : MapAt OkPl w B M) :
    Calls Try.prog 31 #[.map (some B)] w (CloneEnd w M) := by
  obtain ⟨es, clock, hb, he⟩ := h
  have hcon : Calls Try.prog 31 _ _ _ := Go.Proofs.AnyW.maps_Clone Try.cloneH B es clock w hb
  refine hcon.mono ?_
  rintro e w' ⟨rfl, rfl⟩
  exact ⟨w.heap.size, rfl, ⟨es, clock, (MapKept.heap_alloc w _).1, he⟩, (Below.refl _ _).alloc (Nat.le_refl _) _, Nat.le_refl _⟩

def CopyEnd (w : World) (A : List Fx) (C : List Ch) (e : Ending) (w' : World) : Prop :=
  ∃ p ba bc, e = .returned (.pointer (some ⟨p, 0, none⟩)) ∧ FactsAt w' p ba bc A C ∧ Below w.heap.size w w' ∧ w.heap.size ≤ p ∧ w.heap.size ≤ ba ∧ w.heap.size ≤ bc
set_option maxHeartbeats 4000000 in
set_option maxRecDepth 100000 in
theorem copy_ok (p ba bc : Nat) (A : List Fx) (C : List Ch) (w : World) (h : FactsAt w p ba bc A C) :
    Calls Try.prog 23 #[.pointer (some ⟨p, 0, none⟩)] w (CopyEnd w A C) := by
  have HF := Lib.hid h
  have HCX : Hid (∀ W, Below w.heap.size w W → Calls Try.prog 30 #[.map (some ba)] W (CloneEnd W (A.map entX))) := fun W hW => cloneX_ok ba _ W (HF.out.after hW).ma
  have HCH : Hid (∀ W, Below w.heap.size w W → Calls Try.prog 31 #[.map (some bc)] W (CloneEnd W (C.map entH))) := fun W hW => cloneH_ok bc _ W (HF.out.after hW).mc
  have HS : Hid (∀ w' : World, Below w.heap.size w w' → w'.cell? ⟨p, 0, none⟩ = some (.map (some ba)) ∧ w'.cell? ⟨p, 1, none⟩ = some (.map (some bc))) := fun w' hW => ⟨(HF.out.after hW).blk.cell 0 rfl, (HF.out.after hW).blk.cell 1 rfl⟩
  clear h
  go_enter Try.func23, Try.ntmps23
  go_wp2_with fail
  go_region_held3 (fun w' => w'.cell? ⟨p, 0, none⟩ = some (.map (some ba)) ∧ w'.cell? ⟨p, 1, none⟩ = some (.map (some bc)))
    (first | with_reducible exact HS.out _ (Below.refl _ _).drew | with_reducible exact HS.out _ hB5 | with_reducible exact HS.out _ hB6 | go_keep)
    (first
      | (go_at_call 30; (with_reducible refine (HCX.out w.drew (Below.refl _ _).drew).mono ?_); rintro e w5 ⟨b5, rfl, hm5, hb5, hz5⟩; have hB5 : Below w.heap.size w w5 := (Below.refl _ w).drew.trans hb5)
      | (go_at_call 31; (with_reducible refine (HCH.out w.drew (Below.refl _ _).drew).mono ?_); rintro e w6 ⟨b6, rfl, hm6, hb6, hz6⟩; have hB6 : Below w.heap.size w w6 := (Below.refl _ w).drew.trans hb6)
      | (go_at_call 30; (with_reducible refine (HCX.out _ hB6).mono ?_); rintro e w5 ⟨b5, rfl, hm5, hb5, hz5⟩; have hB5 : Below w.heap.size w w5 := hB6.trans (hb5.mono hB6.size))
      | (go_at_call 31; (with_reducible refine (HCH.out _ hB5).mono ?_); rintro e w6 ⟨b6, rfl, hm6, hb6, hz6⟩; have hB6 : Below w.heap.size w w6 := hB5.trans (hb6.mono hB5.size)))
  have ha : Below w6.heap.size w6 (w6.alloc (.cells #[.map (some b5), .map (some b6)] 76)) := (Below.refl _ _).alloc (Nat.le_refl _) _
  have z5 := hB5.size
  have hz5' : w.heap.size ≤ b5 := hz5
  have z6 := hB6.size
  have hFIN : Hid (FactsAt (w6.alloc (.cells #[.map (some b5), .map (some b6)] 76)) w6.heap.size b5 b6 A C) :=
    ⟨Blk.new _ _ _, (hm5.after hb6).after ha, hm6.after ha, HF.out.ra, HF.out.rc, by have := hm5.lt; omega⟩
  have HBF := Lib.hid (hB6.trans (ha.mono z6))
  clear hm5 hm6 hb5 hb6 hB5 hB6 ha
  go_wp2_with fail
  go_ret
  exact ⟨w6.heap.size, b5, b6, rfl, hFIN.out, HBF.out, by omega, by omega, by omega⟩

end Go.Proofs.Ytfimgdjpnlcckaa
