/- The document's answer for terms (chattelref05): Of. -/
import Derived.Test.YtglnnllodoljkaaDoorChkB
import Derived.Test.YtglnnllodoljkaaDoorTermR
import Derived.Deep.RegionHeld3
namespace Go.Proofs.YtglnnllodoljkaaDoor
open Go.RowKit
set_option linter.unusedVariables false
set_option linter.unusedSimpArgs false

abbrev lit0 : ByteArray := ⟨#[]⟩
abbrev lit1 : ByteArray := ⟨#[111]⟩
abbrev lit2 : ByteArray := ⟨#[99]⟩
set_option maxHeartbeats 4000000 in
set_option maxRecDepth 100000 in
theorem ref05of_ok (a : Option Addr) (cap : Nat) (ns : List Nd) (hl : ns.length ≤ 1000000) (hI : NdsIn ns) (w : World) (hN : NdsAt w a ns) :
    Calls Tryd.prog 17 #[.slice a ns.length cap] w fun e w' => e = .returned (.tuple #[.string (letV (ofV ns).1), .int .i64 (ofV ns).2]) ∧ Below w.heap.size w w' := by
  have HN := Lib.hid hN
  have HI := Lib.hid hI
  have HSZ := Lib.hid (refsize_ok a cap ns hl 0 (by omega) w hN)
  obtain ⟨V, hV⟩ : ∃ V, ofV ns = V := ⟨_, rfl⟩
  have HV := Lib.hid hV
  rw [hV]
  clear hN hI hV
  by_cases h64 : 64 < ns.length
  · obtain rfl : (0, 15) = V := by rw [← HV.out]; unfold ofV; rw [if_pos h64]
    have h64' : 64 < (ns.length : Int) := by omega
    clear h64
    go_enter Tryd.func17, Tryd.ntmps17
    go_wp2_with fail
    go_ret2
    exact ⟨rfl, Below.refl _ _⟩
  have h64' : (ns.length : Int) ≤ 64 := by omega
  by_cases h0 : ns.length = 0
  · obtain rfl : (0, 13) = V := by rw [← HV.out]; unfold ofV; rw [if_neg h64, if_pos (Or.inl h0)]
    have h0b : ((ns.length : Int) == 0) = true := by simp [h0]
    clear h64 h0
    go_enter Tryd.func17, Tryd.ntmps17
    go_wp2_with fail
    go_ret2
    exact ⟨rfl, Below.refl _ _⟩
  have h0b : ((ns.length : Int) == 0) = false := by simp [h0]
  have h0' : 0 < ns.length := by omega
  rw [List.drop_zero] at HSZ
  rw [show ((0 : Nat) : Int) = 0 from rfl] at HSZ
  by_cases hsk : skip 1 (opsOf ns) = some ns.length
  rotate_left
  · obtain rfl : (0, 13) = V := by rw [← HV.out]; unfold ofV; rw [if_neg h64, if_pos (Or.inr hsk)]
    have hne : (skip 1 (opsOf ns)).getD 0 ≠ ns.length := fun e => by
      cases hh : skip 1 (opsOf ns) with
      | none => rw [hh] at e; simp at e; omega
      | some n => rw [hh] at e hsk; simp at e; exact hsk (by rw [e])
    obtain ⟨z, hz⟩ : ∃ z, (skip 1 (opsOf ns)).getD 0 = z := ⟨_, rfl⟩
    rw [hz] at HSZ hne
    have hnb : ((z : Int) != (ns.length : Int)) = true := by simp; omega
    clear h64 h0 hsk hz hne
    go_enter Tryd.func17, Tryd.ntmps17
    go_wp2_with fail
    with_reducible refine HSZ.out.mono ?_
    rintro e w1 ⟨rfl, hb1⟩
    go_wp2_with fail
    go_ret2
    exact ⟨rfl, hb1⟩
  rw [hsk, show ((some ns.length : Option Nat).getD 0) = ns.length from rfl] at HSZ
  have HSK := Lib.hid hsk
  clear h0 hsk
  go_enter Tryd.func17, Tryd.ntmps17
  go_wp2_with fail
  with_reducible refine HSZ.out.mono ?_
  rintro e w1 ⟨rfl, hb1⟩
  have B1 : Hid (Below w.heap.size w w1) := hb1
  have hnb : ((ns.length : Int) != (ns.length : Int)) = false := by simp
  clear hb1 HSZ
  go_wp2_with fail
  clear hnb h0b
  go_loopw [4] (fun c wr => ∃ k : Nat, k ≤ ns.length ∧ c = .int .i64 (k : Int) ∧ Hid (∀ j, j < k → fieldsV (Nd.at ns j) = true) ∧ Hid (Below w.heap.size w wr)) (fun c _ => ns.length - (intOf c).toNat)
  case atStart => exact ⟨0, by omega, rfl, (fun j hj => by omega), B1⟩
  case round =>
    obtain ⟨k, hk, rfl, HK, HBL⟩ := hrel
    by_cases hlt : k < ns.length
    · obtain ⟨b, o, rfl, hc⟩ := (HN.out.after HBL.out) (by omega)
      have c0 : wr.cell? ⟨b, o + k * 5, none⟩ = some (.int .i64 (Nd.at ns k).op) := hc k hlt 0 _ rfl
      have c1 : wr.cell? ⟨b, o + k * 5 + 1, none⟩ = some (.int .i64 (Nd.at ns k).a) := hc k hlt 1 _ rfl
      have c2 : wr.cell? ⟨b, o + k * 5 + 2, none⟩ = some (.int .i64 (Nd.at ns k).b) := hc k hlt 2 _ rfl
      have c3 : wr.cell? ⟨b, o + k * 5 + 3, none⟩ = some (.int .i64 (Nd.at ns k).num) := hc k hlt 3 _ rfl
      have c4 : wr.cell? ⟨b, o + k * 5 + 4, none⟩ = some (.int .i64 (Nd.at ns k).den) := hc k hlt 4 _ rfl
      obtain ⟨i1, i2, i3, i4⟩ := HI.out k hlt
      have HF := Lib.hid (reffields_ok (Nd.at ns k) i1 i2 i3 i4 wr)
      unfold Nd.val at HF
      obtain ⟨f, hf⟩ : ∃ f, fieldsV (Nd.at ns k) = f := ⟨_, rfl⟩
      rw [hf] at HF
      have HFF := Lib.hid hf
      obtain ⟨⟨op, na, nb, nn, nd⟩, hnn⟩ : ∃ n, Nd.at ns k = n := ⟨_, rfl⟩
      rw [hnn] at c0 c1 c2 c3 c4 HF
      dsimp only at c0 c1 c2 c3 c4 HF
      have hlt' : (k : Int) < (ns.length : Int) := by omega
      clear hc i1 i2 i3 i4 hf hnn
      go_wp2_with fail
      with_reducible refine HF.out.mono ?_
      rintro e w2 ⟨rfl, hb2⟩
      have B2 : Hid (Below w.heap.size w w2) := HBL.out.trans (hb2.mono HBL.out.size)
      clear hb2 c0 c1 c2 c3 c4 HF
      cases f with
      | true =>
        go_wp2_with fail
        refine ⟨⟨k + 1, by omega, by go_num, (fun j hj => by
          rcases Nat.lt_or_ge j k with h | h
          · exact HK.out j h
          · rw [show j = k from by omega]; exact HFF.out), B2⟩, by simp [intOf]; omega⟩
      | false =>
        obtain rfl : (0, 10) = V := by
          rw [← HV.out]
          unfold ofV
          rw [if_neg h64, if_neg (by rintro (h | h); omega; exact h HSK.out), if_pos (fun h => by have := h k hlt; rw [HFF.out] at this; cases this)]
        go_wp2_with fail
        go_ret2
        exact ⟨rfl, B2.out⟩
    · obtain rfl : k = ns.length := by omega
      clear hlt B1
      go_wp2_with fail
      have HF : Hid (∀ i, i < ns.length → fieldsV (Nd.at ns i) = true) := HK.out
      have hnot : Hid (¬ (ns.length = 0 ∨ skip 1 (opsOf ns) ≠ some ns.length)) := by rintro (h | h); omega; exact h HSK.out
      have HS14 : Hid (∀ i, i < ns.length → ¬ sortsOk ns i → (0, 14) = V) := fun i hi h => by
        rw [← HV.out]
        unfold ofV
        rw [if_neg h64, if_neg hnot.out, if_neg (fun h => h HF.out), if_pos (fun g => h (g i hi))]
      obtain ⟨W0, hW0⟩ : ∃ W0, W0 = wr := ⟨_, rfl⟩
      have HBW : Hid (Below w.heap.size w W0) := by rw [hW0]; exact HBL
      clear HK HBL hk h64
      subst hW0
      go_loopw [5] (fun c wr => ∃ k : Nat, k ≤ ns.length ∧ c = .int .i64 (k : Int) ∧ Hid (∀ j, j < k → sortsOk ns j) ∧ Hid (Below w.heap.size w wr)) (fun c _ => ns.length - (intOf c).toNat)
      case atStart => exact ⟨0, by omega, rfl, (fun j hj => by omega), HBW⟩
      case round =>
        obtain ⟨i, hi, rfl, HK, HBL⟩ := hrel
        by_cases hlt : i < ns.length
        · obtain ⟨q, hq1, hq2⟩ := skip_all HSK.out hlt
          have HPI := Lib.hid (fun k hk => place_in (k := k) hlt hq1 hk)
          have HB := Lib.hid (refbelow_ok a cap ns hl i q hq1 wr (HN.out.after HBL.out))
          unfold RefBelowEnd at HB
          have hM4 := (mny_int (Nd.at ns i).op).2
          have HSB := Lib.hid (shp_below (Nd.at ns i).op)
          have HKL := Lib.hid (kid_letter (Nd.at ns i).op)
          have HKS := Lib.hid (kidB_size (Nd.at ns i).op)
          have HSI : Hid (∀ M, mny (Nd.at ns i).op = M → (∀ k, k < M → sortOk ns i k) → sortsOk ns i) := fun M e h k hk => h k (by omega)
          have HSN : Hid (∀ k, k < mny (Nd.at ns i).op → ¬ sortOk ns i k → (0, 14) = V) := fun k hk h => HS14.out i hlt (fun g => h (g k hk))
          obtain ⟨op, hop⟩ : ∃ op, (Nd.at ns i).op = op := ⟨_, rfl⟩
          rw [hop] at HPI HB hM4 HSB HKL HKS HSI HSN
          obtain ⟨M, hM⟩ : ∃ M, mny op = M := ⟨_, rfl⟩
          rw [hM] at HPI HB hM4 HSB HKL HKS HSN
          have HM := Lib.hid hM
          have HOP := Lib.hid hop
          have hlt' : (i : Int) < (ns.length : Int) := by omega
          have HLT := Lib.hid hlt
          clear hq1 hq2 hop hM hlt
          go_wp2_with fail
          with_reducible refine HB.out.mono ?_
          rintro e w2 ⟨v, rfl, hown, hb2⟩
          obtain ⟨la, lcap, rfl, hrow⟩ := places_own hown
          have HR := Lib.hid hrow
          have B2 : Hid (Below w.heap.size w w2) := HBL.out.trans (hb2.mono HBL.out.size)
          clear hown hb2 hrow HB
          go_wp2_with fail
          go_loopw [7] (fun c wz => ∃ k : Nat, k ≤ M ∧ c = .int .i64 (k : Int) ∧ Hid (∀ j, j < k → sortOk ns i j) ∧ Hid (Below w.heap.size w wz) ∧ Hid (RowAt wz la M (fun k => .int .i64 (place ns i k : Int)))) (fun c _ => M - (intOf c).toNat)
          case atStart => exact ⟨0, by omega, rfl, (fun j hj => by omega), B2, HR⟩
          case round =>
            obtain ⟨k, hk, rfl, HKK, HBZ, HRW⟩ := hrel
            by_cases hltk : k < M
            · obtain ⟨lb, lo, rfl, hcl⟩ := HRW.out (by omega)
              have c0 : wr.cell? ⟨lb, lo + k, none⟩ = some (.int .i64 (place ns i k : Int)) := hcl k hltk
              obtain ⟨p1, p2, q', p3, p4, _⟩ := HPI.out k hltk
              have hpl : place ns i k < ns.length := by
                rcases Nat.lt_or_ge (place ns i k) ns.length with h | h
                · exact h
                · rw [skip_over h] at p3; cases p3
              obtain ⟨b, o, rfl, hc⟩ := (HN.out.after HBZ.out) (by omega)
              have c1 : wr.cell? ⟨b, o + i * 5, none⟩ = some (.int .i64 op) := by rw [← HOP.out]; exact hc i HLT.out 0 _ rfl
              have c2 : wr.cell? ⟨b, o + place ns i k * 5, none⟩ = some (.int .i64 (Nd.at ns (place ns i k)).op) := hc _ hpl 0 _ rfl
              have HSO : Hid (sortOk ns i k ↔ shp (Nd.at ns (place ns i k)).op 0 = shp op (k + 2)) := by show _ ↔ _; rw [← HOP.out]; exact Iff.rfl
              obtain ⟨p, hp⟩ : ∃ p, place ns i k = p := ⟨_, rfl⟩
              rw [hp] at c0 c2 hpl HSO
              obtain ⟨op2, hop2⟩ : ∃ op, (Nd.at ns p).op = op := ⟨_, rfl⟩
              rw [hop2] at c2 HSO
              have hsl : ∀ w, (Instr.slice 9 (.string (kidB op)) (some (.int .i64 (k : Int))) (some (.int .i64 ((k : Int) + 1))) none).run Tryd.prog w = .ok (.string (letV (shp op (k + 2)))) w := fun w => by
                rw [← HKL.out k hltk, run_slice_string_if w 9 (kidB op) .i64 .i64 (k : Int) ((k : Int) + 1) Tryd.underlying9, if_pos (by rw [HKS.out]; omega), if_pos (by omega)]
                rfl
              have HRS := Lib.hid (fun w => refsort_ok op2 w)
              have HRK := Lib.hid (fun w => refkids_ok op w)
              have hx3 := shp_three op2
              have hy2 := HSB.out k hltk
              obtain ⟨x, hx⟩ : ∃ x, shp op2 0 = x := ⟨_, rfl⟩
              obtain ⟨y, hy⟩ : ∃ y, shp op (k + 2) = y := ⟨_, rfl⟩
              obtain ⟨kb, hkb⟩ : ∃ kb, kidB op = kb := ⟨_, rfl⟩
              simp only [hkb, hy] at hsl
              rw [hx] at HRS hx3 HSO
              rw [hy] at hy2 HSO
              rw [hkb] at HRK
              have hwk : IntKind.i64.wrap ((k : Int) + 1) = (k : Int) + 1 := IntWalk.i64_in _ (by omega)
              have hpl' : (p : Int) < (ns.length : Int) := by omega
              have hltk' : (k : Int) < (M : Int) := by omega
              have hp0 : (0 : Int) ≤ (p : Int) := by omega
              have hi0 : (0 : Int) ≤ (i : Int) := by omega
              have hk0 : (0 : Int) ≤ (k : Int) := by omega
              have hd0 : wr.drew.cell? ⟨lb, lo + k, none⟩ = some (.int .i64 (p : Int)) := c0
              have hd1 : wr.drew.cell? ⟨b, o + i * 5, none⟩ = some (.int .i64 op) := c1
              have hd2 : wr.drew.cell? ⟨b, o + p * 5, none⟩ = some (.int .i64 op2) := c2
              clear hcl hc p1 p2 p3 p4 hp hop2 hx hy hkb
              go_wp2_with fail
              rcases hx3 with rfl | rfl | rfl <;> rcases hy2 with rfl | rfl
              · rw [show letV 0 = (lit0) from rfl] at HRS
                simp only [show letV 1 = (lit1) from rfl] at hsl
                go_region_held3 (fun w' => w'.cell? ⟨lb, lo + k, none⟩ = some (.int .i64 (p : Int)) ∧ w'.cell? ⟨b, o + i * 5, none⟩ = some (.int .i64 op) ∧ w'.cell? ⟨b, o + p * 5, none⟩ = some (.int .i64 op2))
                  (first | with_reducible exact ⟨hd0, hd1, hd2⟩ | with_reducible exact ⟨hd0', hd1', hd2'⟩)
                  (first
                    | ((with_reducible refine (HRS.out _).mono ?_); rintro e w3 ⟨rfl, rfl⟩)
                    | ((with_reducible refine (HRK.out wr.drew).mono ?_); rintro e w3 ⟨rfl, hb3⟩; have hd0' := below_cell hb3 hd0; have hd1' := below_cell hb3 hd1; have hd2' := below_cell hb3 hd2))
                all_goals
                  obtain rfl : (0, 14) = V := HSN.out k hltk (fun h => absurd (HSO.out.1 h) (by decide))
                  have B3 : Hid (Below w.heap.size w w3) := (HBZ.out.drew).trans (hb3.mono HBZ.out.size)
                  clear hb3 hd0 hd1 hd2 hd0' hd1' hd2' HSO HRS HRK hsl
                  go_wp2_with fail
                  go_ret2
                  exact ⟨rfl, B3.out⟩
              · rw [show letV 0 = (lit0) from rfl] at HRS
                simp only [show letV 2 = (lit2) from rfl] at hsl
                go_region_held3 (fun w' => w'.cell? ⟨lb, lo + k, none⟩ = some (.int .i64 (p : Int)) ∧ w'.cell? ⟨b, o + i * 5, none⟩ = some (.int .i64 op) ∧ w'.cell? ⟨b, o + p * 5, none⟩ = some (.int .i64 op2))
                  (first | with_reducible exact ⟨hd0, hd1, hd2⟩ | with_reducible exact ⟨hd0', hd1', hd2'⟩)
                  (first
                    | ((with_reducible refine (HRS.out _).mono ?_); rintro e w3 ⟨rfl, rfl⟩)
                    | ((with_reducible refine (HRK.out wr.drew).mono ?_); rintro e w3 ⟨rfl, hb3⟩; have hd0' := below_cell hb3 hd0; have hd1' := below_cell hb3 hd1; have hd2' := below_cell hb3 hd2))
                all_goals
                  obtain rfl : (0, 14) = V := HSN.out k hltk (fun h => absurd (HSO.out.1 h) (by decide))
                  have B3 : Hid (Below w.heap.size w w3) := (HBZ.out.drew).trans (hb3.mono HBZ.out.size)
                  clear hb3 hd0 hd1 hd2 hd0' hd1' hd2' HSO HRS HRK hsl
                  go_wp2_with fail
                  go_ret2
                  exact ⟨rfl, B3.out⟩
              · rw [show letV 1 = (lit1) from rfl] at HRS
                simp only [show letV 1 = (lit1) from rfl] at hsl
                go_region_held3 (fun w' => w'.cell? ⟨lb, lo + k, none⟩ = some (.int .i64 (p : Int)) ∧ w'.cell? ⟨b, o + i * 5, none⟩ = some (.int .i64 op) ∧ w'.cell? ⟨b, o + p * 5, none⟩ = some (.int .i64 op2))
                  (first | with_reducible exact ⟨hd0, hd1, hd2⟩ | with_reducible exact ⟨hd0', hd1', hd2'⟩)
                  (first
                    | ((with_reducible refine (HRS.out _).mono ?_); rintro e w3 ⟨rfl, rfl⟩)
                    | ((with_reducible refine (HRK.out wr.drew).mono ?_); rintro e w3 ⟨rfl, hb3⟩; have hd0' := below_cell hb3 hd0; have hd1' := below_cell hb3 hd1; have hd2' := below_cell hb3 hd2))
                all_goals
                  have HS1 : Hid (sortOk ns i k) := HSO.out.2 (by first | trivial | rfl)
                  have B3 : Hid (Below w.heap.size w w3) := (HBZ.out.drew).trans (hb3.mono HBZ.out.size)
                  have R3 := Lib.hid ((HRW.out.drew).after hb3)
                  clear hb3 hd0 hd1 hd2 hd0' hd1' hd2' HSO HRS HRK hsl
                  go_wp2_with fail
                  refine ⟨⟨k + 1, by omega, by go_num, (fun j hj => by
                    rcases Nat.lt_or_ge j k with h | h
                    · exact HKK.out j h
                    · rw [show j = k from by omega]; exact HS1.out), B3, R3⟩, by simp [intOf]; omega⟩
              · rw [show letV 1 = (lit1) from rfl] at HRS
                simp only [show letV 2 = (lit2) from rfl] at hsl
                go_region_held3 (fun w' => w'.cell? ⟨lb, lo + k, none⟩ = some (.int .i64 (p : Int)) ∧ w'.cell? ⟨b, o + i * 5, none⟩ = some (.int .i64 op) ∧ w'.cell? ⟨b, o + p * 5, none⟩ = some (.int .i64 op2))
                  (first | with_reducible exact ⟨hd0, hd1, hd2⟩ | with_reducible exact ⟨hd0', hd1', hd2'⟩)
                  (first
                    | ((with_reducible refine (HRS.out _).mono ?_); rintro e w3 ⟨rfl, rfl⟩)
                    | ((with_reducible refine (HRK.out wr.drew).mono ?_); rintro e w3 ⟨rfl, hb3⟩; have hd0' := below_cell hb3 hd0; have hd1' := below_cell hb3 hd1; have hd2' := below_cell hb3 hd2))
                all_goals
                  obtain rfl : (0, 14) = V := HSN.out k hltk (fun h => absurd (HSO.out.1 h) (by decide))
                  have B3 : Hid (Below w.heap.size w w3) := (HBZ.out.drew).trans (hb3.mono HBZ.out.size)
                  clear hb3 hd0 hd1 hd2 hd0' hd1' hd2' HSO HRS HRK hsl
                  go_wp2_with fail
                  go_ret2
                  exact ⟨rfl, B3.out⟩
              · rw [show letV 2 = (lit2) from rfl] at HRS
                simp only [show letV 1 = (lit1) from rfl] at hsl
                go_region_held3 (fun w' => w'.cell? ⟨lb, lo + k, none⟩ = some (.int .i64 (p : Int)) ∧ w'.cell? ⟨b, o + i * 5, none⟩ = some (.int .i64 op) ∧ w'.cell? ⟨b, o + p * 5, none⟩ = some (.int .i64 op2))
                  (first | with_reducible exact ⟨hd0, hd1, hd2⟩ | with_reducible exact ⟨hd0', hd1', hd2'⟩)
                  (first
                    | ((with_reducible refine (HRS.out _).mono ?_); rintro e w3 ⟨rfl, rfl⟩)
                    | ((with_reducible refine (HRK.out wr.drew).mono ?_); rintro e w3 ⟨rfl, hb3⟩; have hd0' := below_cell hb3 hd0; have hd1' := below_cell hb3 hd1; have hd2' := below_cell hb3 hd2))
                all_goals
                  obtain rfl : (0, 14) = V := HSN.out k hltk (fun h => absurd (HSO.out.1 h) (by decide))
                  have B3 : Hid (Below w.heap.size w w3) := (HBZ.out.drew).trans (hb3.mono HBZ.out.size)
                  clear hb3 hd0 hd1 hd2 hd0' hd1' hd2' HSO HRS HRK hsl
                  go_wp2_with fail
                  go_ret2
                  exact ⟨rfl, B3.out⟩
              · rw [show letV 2 = (lit2) from rfl] at HRS
                simp only [show letV 2 = (lit2) from rfl] at hsl
                go_region_held3 (fun w' => w'.cell? ⟨lb, lo + k, none⟩ = some (.int .i64 (p : Int)) ∧ w'.cell? ⟨b, o + i * 5, none⟩ = some (.int .i64 op) ∧ w'.cell? ⟨b, o + p * 5, none⟩ = some (.int .i64 op2))
                  (first | with_reducible exact ⟨hd0, hd1, hd2⟩ | with_reducible exact ⟨hd0', hd1', hd2'⟩)
                  (first
                    | ((with_reducible refine (HRS.out _).mono ?_); rintro e w3 ⟨rfl, rfl⟩)
                    | ((with_reducible refine (HRK.out wr.drew).mono ?_); rintro e w3 ⟨rfl, hb3⟩; have hd0' := below_cell hb3 hd0; have hd1' := below_cell hb3 hd1; have hd2' := below_cell hb3 hd2))
                all_goals
                  have HS1 : Hid (sortOk ns i k) := HSO.out.2 (by first | trivial | rfl)
                  have B3 : Hid (Below w.heap.size w w3) := (HBZ.out.drew).trans (hb3.mono HBZ.out.size)
                  have R3 := Lib.hid ((HRW.out.drew).after hb3)
                  clear hb3 hd0 hd1 hd2 hd0' hd1' hd2' HSO HRS HRK hsl
                  go_wp2_with fail
                  refine ⟨⟨k + 1, by omega, by go_num, (fun j hj => by
                    rcases Nat.lt_or_ge j k with h | h
                    · exact HKK.out j h
                    · rw [show j = k from by omega]; exact HS1.out), B3, R3⟩, by simp [intOf]; omega⟩
            · obtain rfl : k = M := by omega
              go_wp2_with fail
              refine ⟨⟨i + 1, by have := HLT.out; omega, by go_num, (fun j hj => by
                rcases Nat.lt_or_ge j i with h | h
                · exact HK.out j h
                · rw [show j = i from by omega]; exact HSI.out _ HM.out HKK.out), HBZ⟩, by have := HLT.out; simp [intOf]; omega⟩
        · obtain rfl : i = ns.length := by omega
          have HDP := Lib.hid (refdepth_ok a cap ns hl ns.length 0 ns.length (by omega) hl (by rw [List.drop_zero]; exact HSK.out) wr (HN.out.after HBL.out))
          rw [show ((0 : Nat) : Int) = 0 from rfl] at HDP
          have hd2 := (deepF_le ns ns.length 0).2
          have HVV : Hid (V = if 12 < deepF ns ns.length 0 then (0, 15) else (shp (Nd.at ns 0).op 0, 0)) := by
            show V = _
            rw [← HV.out]
            unfold ofV
            rw [if_neg (by omega), if_neg hnot.out, if_neg (fun h => h HF.out), if_neg (fun h => h HK.out)]
          obtain ⟨d, hd⟩ : ∃ d, deepF ns ns.length 0 = d := ⟨_, rfl⟩
          rw [hd] at HDP hd2 HVV
          clear hlt hd HBW hi
          go_wp2_with fail
          with_reducible refine HDP.out.mono ?_
          rintro e w2 ⟨rfl, hb2⟩
          have B2 : Hid (Below w.heap.size w w2) := HBL.out.trans (hb2.mono HBL.out.size)
          have HN2 := Lib.hid (HN.out.after B2.out)
          clear hb2 HDP
          by_cases hd12 : 12 < d
          · have hd12' : (12 : Int) < (d : Int) := by omega
            obtain rfl : V = (0, 15) := by rw [show V = _ from HVV.out, if_pos hd12]
            clear hd12
            go_wp2_with fail
            go_ret2
            exact ⟨rfl, B2.out⟩
          · have hd12' : (d : Int) ≤ 12 := by omega
            obtain rfl : V = (shp (Nd.at ns 0).op 0, 0) := by rw [show V = _ from HVV.out, if_neg hd12]
            obtain ⟨b, o, rfl, hc⟩ := HN2.out h0'
            have c0 : w2.cell? ⟨b, o, none⟩ = some (.int .i64 (Nd.at ns 0).op) := by
              have := hc 0 h0' 0 _ rfl
              rwa [Nat.zero_mul, Nat.add_zero] at this
            have hn0 : (0 : Int) < (ns.length : Int) := by omega
            have HRS := Lib.hid (refsort_ok (Nd.at ns 0).op w2)
            obtain ⟨op, hop⟩ : ∃ op, (Nd.at ns 0).op = op := ⟨_, rfl⟩
            have HOP := Lib.hid hop
            rw [hop] at c0 HRS
            clear hd12 hc hop
            go_wp2_with fail
            with_reducible refine HRS.out.mono ?_
            rintro e w3 ⟨rfl, rfl⟩
            go_wp2_with fail
            go_ret2
            exact ⟨by rw [← HOP.out]; rfl, B2.out⟩

end Go.Proofs.YtglnnllodoljkaaDoor
