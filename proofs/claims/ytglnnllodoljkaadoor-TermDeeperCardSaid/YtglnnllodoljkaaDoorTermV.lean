/- TermInside. -/
import Derived.Test.YtglnnllodoljkaaDoorTermU
import Derived.Test.YtglnnllodoljkaaDoorTermS
import Derived.Test.YtglnnllodoljkaaDoorTermQ
import Derived.Deep.RegionHeld3
namespace Go.Proofs.YtglnnllodoljkaaDoor
open Go.RowKit Go.Shelf
set_option linter.unusedVariables false
set_option linter.unusedSimpArgs false

theorem kidsL_get (ns : List Nd) (i M j : Nat) (h : j < M) : ((kidsL ns i M).map (·.2)).getD j 0 = (place ns i j : Int) := by
  simp [kidsL, List.getD_eq_getElem?_getD, h]
theorem places_ok {ns : List Nd} {i q : Nat} (hi : i < ns.length) (h : skip 1 ((opsOf ns).drop i) = some q) : sizeV ns i = ((q : Int), 0) ∧ placesV ns i = (kidsL ns i (mny (Nd.at ns i).op)).map (·.2) := by
  have hz : sizeV ns i = ((q : Int), 0) := by
    unfold sizeV
    rw [if_neg (by omega), show ((i : Int)).toNat = i from rfl, h]
  refine ⟨hz, ?_⟩
  unfold placesV
  rw [hz]
  rfl
theorem slice_nodes (b o k q len cap : Nat) (h1 : k + q ≤ len) (h2 : len ≤ cap) (h3 : k < cap) (w : World) : (Instr.slice 22 (.slice (some ⟨b, o, none⟩) len cap) (some (.int .i64 (k : Int))) (some (.int .i64 ((k : Int) + (q : Int)))) none).run Tryd.prog w = .ok (.slice (some ⟨b, o + k * 5, none⟩) q (cap - k)) w := by
  have he : Tryd.prog.elem 22 = 47 := by kernel_rfl
  have hs : (sizeOf 47).run Tryd.prog w = .ok 5 w := by kernel_rfl
  have ht : Tryd.prog.underlying 22 = some (.slice (Tryd.prog.elem 22)) := by kernel_rfl
  rw [run_slice_lh w 22 (some ⟨b, o, none⟩) len cap ht .i64 .i64 (k : Int) ((k : Int) + (q : Int)) (by omega) (by omega) (by omega), he, hs]
  have h4 : ((k : Int) + (q : Int)).toNat - k = q := by omega
  simp only [Result.andThen_ok, sliced, Int.toNat_natCast, h4, show ¬ cap = k from by omega, if_false, Option.map_some, add_plain]
theorem nds_sub {w : World} {b o i q : Nat} {ns : List Nd} (h : NdsAt w (some ⟨b, o, none⟩) ns) (hb : i + q ≤ ns.length) : NdsAt w (some ⟨b, o + i * 5, none⟩) (sub ns i q) := fun hl => by
  rw [sub_len hb] at hl
  obtain ⟨b', o', e, hc⟩ := h (by omega)
  cases e
  refine ⟨b, o + i * 5, rfl, fun j hj v x hx => ?_⟩
  rw [sub_len hb] at hj
  have := hc (i + j) (by omega) v x (by
    unfold Nd.row at hx ⊢
    rw [sub_at hb hj] at hx
    exact hx)
  rw [show o + i * 5 + j * 5 = o + (i + j) * 5 from by rw [Nat.add_mul]; omega]
  exact this
theorem sub_in {ns : List Nd} {i q : Nat} (h : NdsIn ns) (hb : i + q ≤ ns.length) : NdsIn (sub ns i q) := fun j hj => by
  rw [sub_len hb] at hj
  rw [sub_at hb hj]
  exact h _ (by omega)

end Go.Proofs.YtglnnllodoljkaaDoor
