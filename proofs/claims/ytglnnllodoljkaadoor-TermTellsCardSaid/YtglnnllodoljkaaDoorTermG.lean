/- The document's answer for terms (chattelref05): Size. -/
import Derived.Test.YtglnnllodoljkaaDoorTermF
namespace Go.Proofs.YtglnnllodoljkaaDoor
open Go.RowKit
set_option linter.unusedVariables false
set_option linter.unusedSimpArgs false

theorem shp_three (op : Int) : shp op 0 = 0 ∨ shp op 0 = 1 ∨ shp op 0 = 2 := by
  by_cases h : 0 ≤ op ∧ op < 18
  · obtain ⟨k, rfl⟩ : ∃ k : Nat, op = k := ⟨op.toNat, by omega⟩
    have hk : k < 18 := by omega
    rw [shp_in hk]
    have : ∀ k, k < 18 → shN k 0 = 0 ∨ shN k 0 = 1 ∨ shN k 0 = 2 := by decide
    exact this k hk
  · exact Or.inl (shp_out h 0)
theorem kidB_size (op : Int) : (kidB op).size = mny op := by simp [kidB, ByteArray.size]
/-- One node comes: so many more are awaited. -/
theorem skip_awaited {ns : List Nd} {aw i : Nat} (h : i < ns.length) (h0 : shp (Nd.at ns i).op 0 ≠ 0) : skip (aw + 1) ((opsOf ns).drop i) = (skip (aw + mny (Nd.at ns i).op) ((opsOf ns).drop (i + 1))).map (· + 1) := by
  rw [opsOf_drop ns i h, skip, if_neg h0]
theorem skip_awaited_none {ns : List Nd} {aw i : Nat} (h : i < ns.length) (h0 : shp (Nd.at ns i).op 0 = 0) : skip (aw + 1) ((opsOf ns).drop i) = none := by
  rw [opsOf_drop ns i h, skip, if_pos h0]
theorem skip_awaited_over {ns : List Nd} {aw i : Nat} (h : ns.length ≤ i) : skip (aw + 1) ((opsOf ns).drop i) = none := by
  rw [opsOf_over ns i h]
  rfl

set_option maxHeartbeats 2000000 in
set_option maxRecDepth 100000 in
theorem refsize_ok (a : Option Addr) (cap : Nat) (ns : List Nd) (hl : ns.length ≤ 1000000) (i : Nat) (hi : i ≤ 1000000) (w : World) (hN : NdsAt w a ns) :
    Calls Tryd.prog 13 #[.slice a ns.length cap, .int .i64 i] w fun e w' => e = .returned (.int .i64 ((skip 1 ((opsOf ns).drop i)).getD 0 : Nat)) ∧ Below w.heap.size w w' := by
  have HN := Lib.hid hN
  clear hN
  go_enter Tryd.func13, Tryd.ntmps13
  go_wp2_with fail
  go_loopw [5, 6] (fun p c wr => ∃ aw n : Nat, p = .int .i64 (aw : Int) ∧ c = .int .i64 (n : Int) ∧ aw ≤ 1 + 4 * n ∧ n ≤ 1000000 ∧ n ≤ ns.length - i ∧ Hid (skip 1 ((opsOf ns).drop i) = (skip aw ((opsOf ns).drop (i + n))).map (n + ·)) ∧ Below w.heap.size w wr) (fun _ c _ => ns.length - i - (intOf c).toNat)
  case atStart => exact ⟨1, 0, rfl, rfl, by omega, by omega, by omega, by simp; exact trivial, Below.refl _ _⟩
  case round =>
    obtain ⟨aw, n, rfl, rfl, haw, hn, hnl, HS, hbl⟩ := hrel
    by_cases h0 : aw = 0
    · subst h0
      go_wp2_with fail
      go_ret
      refine ⟨?_, hbl⟩
      have e := HS.out
      rw [skip_zero, Option.map_some] at e
      rw [e]
      simp
    · have h1 : (0 : Int) < (aw : Int) := by omega
      obtain ⟨a1, rfl⟩ : ∃ a1, aw = a1 + 1 := ⟨aw - 1, by omega⟩
      by_cases h2 : ns.length ≤ i + n
      · have h3 : (ns.length : Int) ≤ (i : Int) + (n : Int) := by omega
        have HE := Lib.hid h2
        clear h2
        go_wp2_with fail
        go_ret
        refine ⟨?_, hbl⟩
        have e := HS.out
        rw [skip_awaited_over HE.out] at e
        rw [e]
        rfl
      · have hN' := HN.out.after hbl
        obtain ⟨b, o, rfl, hc⟩ := hN' (by omega)
        have c0 : wr.cell? ⟨b, o + (i + n) * 5, none⟩ = some (.int .i64 (Nd.at ns (i + n)).op) := hc (i + n) (by omega) 0 _ rfl
        clear hc hN'
        have HLT : Hid (i + n < ns.length) := by show _ < _; omega
        have h4 : (i : Int) + (n : Int) < (ns.length : Int) := by omega
        have h5 : (0 : Int) ≤ (i : Int) + (n : Int) := by omega
        have ti : ((i : Int) + (n : Int)).toNat = i + n := by omega
        have hz : decide ((ns.length : Int) ≤ (i : Int) + (n : Int)) = false := by simp; omega
        have hz' : decide (ns.length ≤ i + n) = false := by simp; omega
        obtain ⟨op, hop⟩ : ∃ op, (Nd.at ns (i + n)).op = op := ⟨_, rfl⟩
        rw [hop] at c0
        have HOP := Lib.hid hop
        have HR := Lib.hid (refsort_ok op wr)
        clear hop h2
        rcases shp_three op with h0 | h0 | h0
        · rw [h0] at HR
          have HO := Lib.hid h0
          clear h0
          go_wp2_with fail
          with_reducible refine HR.out.mono ?_
          rintro e w1 ⟨rfl, rfl⟩
          rw [show letV 0 = ⟨#[]⟩ from rfl]
          go_wp2_with fail
          go_ret
          refine ⟨?_, hbl⟩
          have e := HS.out
          rw [skip_awaited_none HLT.out (by rw [HOP.out]; exact HO.out)] at e
          rw [e]
          rfl
        all_goals
          have HNX := Lib.hid (skip_awaited (aw := a1) HLT.out (by rw [HOP.out, h0]; decide))
          rw [h0] at HR
          have HK := Lib.hid (refkids_ok op wr)
          have hm4 := (mny_int op).2
          have hks := kidB_size op
          rw [HOP.out] at HNX
          obtain ⟨M, hM⟩ : ∃ M, mny op = M := ⟨_, rfl⟩
          rw [hM] at hm4 hks HNX
          clear h0 hM
          go_wp2_with fail
          with_reducible refine HR.out.mono ?_
          rintro e w1 ⟨rfl, rfl⟩
          simp only [letV, Int.reduceEq, if_true, if_false, if_pos, if_neg]
          go_wp2_with fail
          with_reducible refine HK.out.mono ?_
          rintro e w2 ⟨rfl, hb2⟩
          have hb2w : Below w.heap.size w w2 := hbl.trans (hb2.mono hbl.size)
          go_wp2_with fail
          have hlt := HLT.out
          refine ⟨⟨a1 + M, n + 1, by simp, by simp, by omega, by omega, by omega, ?_, hb2w⟩, by simp [intOf]; omega⟩
          have e := HS.out
          rw [HNX.out, Option.map_map] at e
          refine Lib.hid (e.trans ?_)
          show Option.map _ (skip (a1 + M) ((opsOf ns).drop (i + n + 1))) = Option.map _ (skip (a1 + M) ((opsOf ns).drop (i + n + 1)))
          congr 1
          funext x
          simp
          omega

end Go.Proofs.YtglnnllodoljkaaDoor
