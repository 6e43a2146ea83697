/- chattellaw01.AmountSplits: the whole walk. -/
import Derived.Test.YtncodoaphfeefaaSpD
import Derived.Test.YtncodoaphfeefaaSpC
namespace Go.Proofs.Ytncodoaphfeefaa
open Go.RowKit Go.Shelf Go.Lib Go.Sort
set_option linter.unusedVariables false
set_option linter.unusedSimpArgs false

theorem splits_all (total : Int) (t1 : -9223372036854775808 ≤ total) (t2 : total ≤ 9223372036854775807) (a : Option Addr) (cap : Nat) (ws : List Int) (hr : ∀ x ∈ ws, -9223372036854775808 ≤ x ∧ x ≤ 9223372036854775807) (w : World) (hx : RowAt w a ws.length (numV ws)) :
    Calls Try.prog 4 #[.int .i64 total, .slice a ws.length cap] w fun e w' => e = .returned (.bool true) ∧ Below w.heap.size w w' := by
  by_cases hn : ws.length < 1 ∨ 64 < ws.length
  · exact splits_few total t1 t2 a cap ws hr w hx hn
  have hS : SpS ws.length ws a w := ⟨rfl, by omega, by omega, hx, hr⟩
  have hl : ws.length ≤ 1000000 := by omega
  by_cases hneg : ∃ x ∈ ws, x < 0
  · exact splits_neg total ws.length a cap ws w hS (split_err total t1 t2 a cap ws hl hr w hx 10 (by unfold splitE; rw [if_neg hn, if_pos hneg]) (by omega)) hneg
  have hpos : ∀ x ∈ ws, 0 ≤ x := fun x hx => by
    by_cases h : x < 0
    · exact absurd ⟨x, hx, h⟩ hneg
    · omega
  by_cases ho : fitsI ws.sum = false ∨ total < -9223372036854775807
  · refine splits_over total ws.length a cap ws w hS (split_err total t1 t2 a cap ws hl hr w hx 11 ?_ (by omega)) hpos ho
    unfold splitE
    rw [if_neg hn, if_neg hneg, if_pos]
    rcases ho with h | h
    · exact .inl h
    · exact .inr (by omega)
  have ho' : ¬ (fitsI ws.sum = false ∨ total = -9223372036854775808) := fun h => ho (by
    rcases h with h | h
    · exact .inl h
    · exact .inr (by omega))
  by_cases h0 : ws.sum = 0
  · exact splits_zero total ws.length a cap ws w hS (split_err total t1 t2 a cap ws hl hr w hx 12 (by unfold splitE; rw [if_neg hn, if_neg hneg, if_neg ho', if_pos h0]) (by omega)) hpos (fun h => ho (.inr h)) h0
  have hE : splitE total ws = 0 := by unfold splitE; rw [if_neg hn, if_neg hneg, if_neg ho', if_neg h0]
  have hf : fitsI ws.sum = true := by
    cases h : fitsI ws.sum
    · exact absurd (.inl h) ho
    · rfl
  have hfs := fits_iff.1 hf
  have hall := sumW_all hpos
  have ht : ¬ total < -9223372036854775807 := fun h => ho (.inr h)
  obtain ⟨S, hSe⟩ : ∃ S, ws.sum.natAbs = S := ⟨_, rfl⟩
  obtain ⟨T, hTe⟩ : ∃ T, total.natAbs = T := ⟨_, rfl⟩
  refine splits_yes total (by omega) t2 ws.length T S hTe a cap ws w hS ?_ hpos (by omega) (by omega) (by omega) ?_
  · refine (split_ok total t1 t2 a cap ws hl hr (fun h => stable_all _ h) w hx).mono ?_
    rintro e w' ⟨v, rfl, hb, _, h2⟩
    rw [hE] at h2 ⊢
    obtain ⟨d, hd, ho2⟩ := h2 rfl
    rw [hSe, hTe] at hd ho2
    exact ⟨v, d, rfl, hb, hd, ho2⟩
  · intro d W hd hrow
    exact refsplit_ok T S ws.length a cap ws rfl (by omega) hpos hr (by omega) (by omega) (by omega) (by omega) d hd W hrow

open Go.ChangeShapes Go.WideShapes Go.ChangeAt in
theorem walk_AmountSplits {H : Type} (enc : TypeId × Value → H) (base : Nat) (W : World) (a : Int) (wa : (Lit.int .i64 a).wf = true)
    (v' : Value) (d' : DataW H) (p' : List MemPlace) (h' : DataW.Trod enc Try.prog W 0 (fun _ => true) true 27 v' d' p') (ok' : Value.okWide Try.prog W .any base 27 v') :
    Calls Try.prog 4 #[.int .i64 a, v'] W fun e w' => e = .returned (.bool true) ∧ Below W.heap.size W w' := by
  obtain ⟨c, cap, xs, rfl, hr, hx⟩ := ints_arg h' ok'
  exact splits_all a (wf_int wa).1 (wf_int wa).2 c cap xs hr W hx

end Go.Proofs.Ytncodoaphfeefaa
