/- Bytes: the document's Read. -/
import Derived.Test.YtkloijkfaooodaaBitY
import Derived.StillTailTactics
namespace Go.Proofs.Ytkloijkfaooodaa
open Go.RowKit Go.Shelf
set_option linter.unusedVariables false
set_option linter.unusedSimpArgs false

def szN (i : Nat) : Nat := [8, 1, 1, 4, 8, 8, 1].getD i 0
def stN (i : Nat) : Nat := [0, 8, 9, 10, 14, 22, 30, 31].getD i 0
theorem st_sz : ∀ i, i < 7 → stN (i + 1) = stN i + szN i ∧ szN i ≤ 8 ∧ stN i + szN i ≤ 31 := by
  intro i hi
  have : ∀ i : Fin 7, stN (i.val + 1) = stN i.val + szN i.val ∧ szN i.val ≤ 8 ∧ stN i.val + szN i.val ≤ 31 := by decide
  exact this ⟨i, hi⟩
/-- A number's bytes, the first k of them. -/
def fldB (bs : List Int) (i k : Nat) : Int := rdN ((bs.drop (stN i)).take k)
def vAt (bs : List Int) (i k : Nat) : List Int := (List.range 7).map fun f => if f < i then fldB bs f (szN f) else if f = i then fldB bs f k else 0
theorem vAt_len (bs : List Int) (i k : Nat) : (vAt bs i k).length = 7 := by simp [vAt]
theorem vAt_get (bs : List Int) (i k f : Nat) (hf : f < 7) : (vAt bs i k)[f]? = some (if f < i then fldB bs f (szN f) else if f = i then fldB bs f k else 0) := by
  unfold vAt
  rw [List.getElem?_map, List.getElem?_range hf]
  rfl
theorem fldB_zero (bs : List Int) (i : Nat) : fldB bs i 0 = 0 := rfl
theorem vAt_set (bs : List Int) (i k : Nat) (hi : i < 7) : (vAt bs i k).set i (fldB bs i (k + 1)) = vAt bs i (k + 1) := by
  apply List.ext_getElem?
  intro f
  rw [List.getElem?_set]
  by_cases hf : f < 7
  · rw [vAt_get bs i (k + 1) f hf]
    by_cases e : i = f
    · subst e
      rw [if_pos rfl, if_pos (by rw [vAt_len]; exact hi), if_neg (by omega), if_pos rfl]
    · rw [if_neg e, vAt_get bs i k f hf, if_neg (show ¬ f = i by omega), if_neg (show ¬ f = i by omega)]
  · have h1 : (vAt bs i k)[f]? = none := List.getElem?_eq_none (by rw [vAt_len]; omega)
    have h2 : (vAt bs i (k + 1))[f]? = none := List.getElem?_eq_none (by rw [vAt_len]; omega)
    rw [h1, h2, if_neg (show ¬ i = f by omega)]
theorem vAt_next (bs : List Int) (i : Nat) (hi : i < 7) : vAt bs i (szN i) = vAt bs (i + 1) 0 := by
  apply List.ext_getElem?
  intro f
  by_cases hf : f < 7
  · rw [vAt_get bs i _ f hf, vAt_get bs (i + 1) _ f hf]
    congr 1
    by_cases e : f < i
    · rw [if_pos e, if_pos (by omega)]
    · by_cases e2 : f = i
      · rw [if_neg e, if_pos e2, if_pos (by omega), e2]
      · rw [if_neg e, if_neg e2, if_neg (by omega)]
        split <;> first | rfl | (rw [fldB_zero])
  · rw [List.getElem?_eq_none (by rw [vAt_len]; omega), List.getElem?_eq_none (by rw [vAt_len]; omega)]
theorem vAt_start (bs : List Int) : vAt bs 0 0 = [0, 0, 0, 0, 0, 0, 0] := by
  simp [vAt, fldB_zero, List.range, List.range.loop]
theorem fldB_succ (bs : List Int) (i k : Nat) (h : stN i + k < bs.length) : fldB bs i (k + 1) = rdS (fldB bs i k) (bs.getD (stN i + k) 0) := by
  unfold fldB rdN
  have hl : k < (bs.drop (stN i)).length := by simp; omega
  rw [List.take_succ_eq_append_getElem hl, List.foldl_append, List.getElem_drop, List.getD_eq_getElem?_getD, List.getElem?_eq_getElem h]
  rfl
theorem rdN_one (x : Int) (h0 : 0 ≤ x) (h1 : x ≤ 255) : rdN [x] = x := by
  show rdS 0 x = x
  rw [rdS_eq 0 x h0 h1]
  unfold wrap64
  omega
theorem drop_one {bs : List Int} {i : Nat} (h : i < bs.length) : (bs.drop i).take 1 = [bs.getD i 0] := by
  rw [List.drop_eq_getElem_cons h, List.getD_eq_getElem?_getD, List.getElem?_eq_getElem h]
  rfl
def rdA (bs : List Int) : List Int := [rdN ((bs.drop 0).take 8), bs.getD 8 0, bs.getD 9 0, rdN ((bs.drop 10).take 4), rdN ((bs.drop 14).take 8), rdN ((bs.drop 22).take 8), bs.getD 30 0]
theorem vAt_end (bs : List Int) (hl : bs.length = 31) (hB : IsB bs) : vAt bs 7 0 = rdA bs := by
  have h8 := hB.getD 8
  have h9 := hB.getD 9
  have h30 := hB.getD 30
  have e1 : fldB bs 1 1 = bs.getD 8 0 := by
    show rdN ((bs.drop 8).take 1) = _
    rw [drop_one (by omega), rdN_one _ h8.1 h8.2]
  have e2 : fldB bs 2 1 = bs.getD 9 0 := by
    show rdN ((bs.drop 9).take 1) = _
    rw [drop_one (by omega), rdN_one _ h9.1 h9.2]
  have e6 : fldB bs 6 1 = bs.getD 30 0 := by
    show rdN ((bs.drop 30).take 1) = _
    rw [drop_one (by omega), rdN_one _ h30.1 h30.2]
  show [fldB bs 0 8, fldB bs 1 1, fldB bs 2 1, fldB bs 3 4, fldB bs 4 8, fldB bs 5 8, fldB bs 6 1] = _
  rw [e1, e2, e6]
  rfl
theorem sizes_get (i : Nat) (hi : i < 7) : (#[Value.int .i64 8, .int .i64 1, .int .i64 1, .int .i64 4, .int .i64 8, .int .i64 8, .int .i64 1] : Array Value)[i]? = some (.int .i64 (szN i)) := by
  have : ∀ i : Fin 7, (#[Value.int .i64 8, .int .i64 1, .int .i64 1, .int .i64 4, .int .i64 8, .int .i64 8, .int .i64 1] : Array Value)[i.val]? = some (.int .i64 (szN i.val)) := by
    intro i
    match i with
    | 0 | 1 | 2 | 3 | 4 | 5 | 6 => rfl
  exact this ⟨i, hi⟩
theorem intC_cell {w : World} {B : Nat} {xs : List Int} {T : TypeId} (h : Blk w B (intC xs) T) (i : Nat) (hi : i < xs.length) : w.cell? ⟨B, i, none⟩ = some (.int .i64 (xs.getD i 0)) := h.cell i (intC_get xs i hi)
theorem intC_set (xs : List Int) (i : Nat) (x : Int) : (intC xs).setIfInBounds i (.int .i64 x) = intC (xs.set i x) := by
  unfold intC
  simp [List.map_set]

def RReadEnd (w : World) (bs : List Int) (e : Ending) (w' : World) : Prop := e = .returned (.tuple #[.agg (intC (rdA bs)), .bool (decB bs)]) ∧ Below w.heap.size w w'
set_option maxHeartbeats 8000000 in
set_option maxRecDepth 100000 in
theorem rread_ok (b o cap : Nat) (bs : List Int) (hl : bs.length = 31) (hcap : 31 ≤ cap) (hcap2 : cap ≤ 9223372036854775807) (hB : IsB bs) (w : World) (h : RecsAt w (some ⟨b, o, none⟩) 1 encY bs) :
    Calls Try.prog 20 #[.slice (some ⟨b, o, none⟩) 31 cap] w (RReadEnd w bs) := by
  have hb : b < w.heap.size := by
    obtain ⟨b', o', e, hb⟩ := h.lt (by omega) (by simp [recF, encY])
    cases e
    exact hb
  have HR := Lib.hid h
  have HBy := Lib.hid hB
  have HL := Lib.hid hl
  obtain ⟨w0, hw0⟩ : ∃ W, ((w.alloc (.cells #[.int .i64 0, .int .i64 0, .int .i64 0, .int .i64 0, .int .i64 0, .int .i64 0, .int .i64 0] 56)).alloc (.cells #[.int .i64 0, .int .i64 0, .int .i64 0, .int .i64 0, .int .i64 0, .int .i64 0, .int .i64 0] 56)).alloc (.cells #[.int .i64 8, .int .i64 1, .int .i64 1, .int .i64 4, .int .i64 8, .int .i64 8, .int .i64 1] 3) = W := ⟨_, rfl⟩
  have hb0 : Below w.heap.size w w0 := by rw [← hw0]; exact (((Below.refl _ _).alloc (Nat.le_refl _) _).alloc (by simp) _).alloc (by simp; omega) _
  have z0 : w0.heap.size = w.heap.size + 3 := by rw [← hw0]; simp
  have hkr : Blk w0 w.heap.size #[.int .i64 0, .int .i64 0, .int .i64 0, .int .i64 0, .int .i64 0, .int .i64 0, .int .i64 0] 56 := by rw [← hw0]; exact ((Blk.new _ _ _).alloc _).alloc _
  have hkv : Blk w0 (w.heap.size + 1) (intC (vAt bs 0 0)) 56 := by
    rw [← hw0, vAt_start]
    have := Blk.new (w.alloc (.cells #[.int .i64 0, .int .i64 0, .int .i64 0, .int .i64 0, .int .i64 0, .int .i64 0, .int .i64 0] 56)) (intC [0, 0, 0, 0, 0, 0, 0]) 56
    rw [World.size_alloc] at this
    exact this.alloc _
  have hks : Blk w0 (w.heap.size + 1 + 1) #[.int .i64 8, .int .i64 1, .int .i64 1, .int .i64 4, .int .i64 8, .int .i64 8, .int .i64 1] 3 := by
    rw [← hw0]
    have := Blk.new ((w.alloc (.cells #[.int .i64 0, .int .i64 0, .int .i64 0, .int .i64 0, .int .i64 0, .int .i64 0, .int .i64 0] 56)).alloc (.cells #[.int .i64 0, .int .i64 0, .int .i64 0, .int .i64 0, .int .i64 0, .int .i64 0, .int .i64 0] 56)) #[.int .i64 8, .int .i64 1, .int .i64 1, .int .i64 4, .int .i64 8, .int .i64 8, .int .i64 1] 3
    rw [World.size_alloc, World.size_alloc] at this
    exact this
  have HW0 := Lib.hid hw0
  have HB0 := Lib.hid hb0
  have HKR := Lib.hid hkr
  have HKV := Lib.hid hkv
  have HKS := Lib.hid hks
  clear h hB hl hw0 hb0 hkr hkv hks
  go_enter Try.func20, Try.ntmps20
  go_wp2_with fail
  rw [HW0.out]
  go_loopw [6, 7] (fun at' i' wr => ∃ i : Nat, i ≤ 7 ∧ i' = .int .i64 i ∧ at' = .int .i64 (stN i) ∧ Hid (Turn [w.heap.size + 1] w0 wr) ∧ Hid (Blk wr (w.heap.size + 1) (intC (vAt bs i 0)) 56)) (fun _ i' _ => 7 - (intOf i').toNat)
  case atStart => exact ⟨0, by omega, rfl, rfl, Turn.refl _ _, HKV.out⟩
  case round =>
    obtain ⟨i, hi, rfl, rfl, HT, HK⟩ := hrel
    by_cases hlt : i < 7
    · obtain ⟨hs1, hs2, hs3⟩ := st_sz i hlt
      have i1 : (0 : Int) ≤ (i : Int) := by omega
      have i2 : (i : Int) < 7 := by omega
      obtain ⟨S, hS⟩ : ∃ S, stN i = S := ⟨_, rfl⟩
      obtain ⟨Z, hZ⟩ : ∃ Z, szN i = Z := ⟨_, rfl⟩
      obtain ⟨S', hS'⟩ : ∃ S, stN (i + 1) = S := ⟨_, rfl⟩
      rw [hS, hZ] at hs1 hs3
      rw [hS'] at hs1
      rw [hZ] at hs2
      rw [hS]
      have HS := Lib.hid hS
      have HZ := Lib.hid hZ
      have HS' := Lib.hid hS'
      clear hS hZ hS'
      obtain ⟨wo, rfl⟩ : ∃ wo : World, wo = wr := ⟨_, rfl⟩
      go_wp2_with fail
      go_loopw [6, 8] (fun at' k' wr => ∃ k : Nat, k ≤ Z ∧ k' = .int .i64 k ∧ at' = .int .i64 ((S + k : Nat) : Int) ∧ Hid (Turn [w.heap.size + 1] w0 wr) ∧ Hid (Blk wr (w.heap.size + 1) (intC (vAt bs i k)) 56)) (fun _ k' _ => Z - (intOf k').toNat)
      case atStart => exact ⟨0, by omega, rfl, by simp, HT, HK⟩
      case round =>
        obtain ⟨k, hk, rfl, rfl, HT2, HK2⟩ := hrel
        have hzs : wr.cell? ⟨w.heap.size + 1 + 1, i, none⟩ = some (.int .i64 (Z : Int)) := by
          rw [← HZ.out]
          exact (HT2.out.blk HKS.out (by simp)).cell i (sizes_get i hlt)
        by_cases hkt : k < Z
        · obtain ⟨A, hA⟩ : ∃ A, S + k = A := ⟨_, rfl⟩
          have hAl : A < 31 := by omega
          have hA1 : A + 1 = S + (k + 1) := by omega
          rw [hA]
          have HA := Lib.hid hA
          have HA1 := Lib.hid hA1
          have j1 : (0 : Int) ≤ (A : Int) := by omega
          have j2 : (A : Int) < 31 := by omega
          have hbd : Below w.heap.size w wr := HB0.out.trans (HT2.out.below HB0.out.size (by simp))
          have hby : ∀ W, Below w.heap.size w W → W.cell? ⟨b, o + A, none⟩ = some (.int .u8 (bs.getD A 0)) := fun W hW => byte_cell ((HR.out).after hW) A (by have := HL.out; omega)
          have hvc := intC_cell HK2.out i (by rw [vAt_len]; exact hlt)
          have hgv : (vAt bs i k).getD i 0 = fldB bs i k := by rw [List.getD_eq_getElem?_getD, vAt_get bs i k i hlt, if_neg (by omega), if_pos rfl]; rfl
          rw [hgv] at hvc
          obtain ⟨x, hx⟩ : ∃ x, bs.getD A 0 = x := ⟨_, rfl⟩
          obtain ⟨n, hn⟩ : ∃ n, fldB bs i k = n := ⟨_, rfl⟩
          have hsu : fldB bs i (k + 1) = rdS n x := by
            rw [fldB_succ bs i k (by have := HL.out; have := HS.out; omega), hn, ← hx, HS.out, HA.out]
          have hxb := HBy.out.getD A
          rw [hx] at hxb
          obtain ⟨x0, x1⟩ := hxb
          rw [hn] at hvc
          have g9 : IntKind.i64.wrap x = x := IntWalk.i64_in _ (by omega)
          have HSu := Lib.hid hsu
          have HBY : Hid (∀ W, Below w.heap.size w W → W.cell? ⟨b, o + A, none⟩ = some (.int .u8 x)) := fun W hW => by rw [← hx]; exact hby W hW
          have hm : Try.prog.follows .mixedOrders = true := by kernel_rfl
          clear hA hA1 hby hgv hx hn hsu
          go_wp2_with fail
          have hbc := HBY.out wr hbd
          have hfr := HK2.out.free i
          go_still_tail 12, hm
          go_wp2_with fail
          have hkd := (HK2.out.after (Below.refl wr.heap.size wr).drew).set i (.int .i64 (rdS n x))
          rw [intC_set, ← HSu.out, vAt_set bs i k hlt, HSu.out] at hkd
          have htd : Turn [w.heap.size + 1] w0 (wr.drew.setCell ⟨w.heap.size + 1, i, none⟩ (.int .i64 (rdS n x))) := (HT2.out.trans (Turn.of_below (Below.refl wr.heap.size wr).drew)).trans (Turn.of_grown (grown_setCell _ _ _ _) (by simp))
          have HKD := Lib.hid hkd
          have HTD := Lib.hid htd
          clear hkd htd hbc hfr hvc hzs
          go_roundw
          case rel => exact ⟨k + 1, by omega, by go_num, by rw [← HA1.out]; go_num, HTD.out, HKD.out⟩
          case measure => simp [intOf]; omega
        · obtain rfl : k = Z := by omega
          have HKN : Hid (Blk wr (w.heap.size + 1) (intC (vAt bs (i + 1) 0)) 56) := by
            have := HK2.out
            rw [← HZ.out, vAt_next bs i hlt] at this
            exact this
          go_wp2_with fail
          go_roundw
          case rel => exact ⟨i + 1, by omega, by go_num, by rw [HS'.out, hs1], HT2, HKN⟩
          case measure => simp [intOf]; omega
    · obtain rfl : i = 7 := by omega
      have hend := HK.out
      rw [vAt_end bs HL.out HBy.out] at hend
      obtain ⟨r0, e0⟩ : ∃ r, rdN ((bs.drop 0).take 8) = r := ⟨_, rfl⟩
      obtain ⟨r1, e1⟩ : ∃ r, rdN ((bs.drop 10).take 4) = r := ⟨_, rfl⟩
      obtain ⟨r2, e2⟩ : ∃ r, rdN ((bs.drop 14).take 8) = r := ⟨_, rfl⟩
      obtain ⟨r3, e3⟩ : ∃ r, rdN ((bs.drop 22).take 8) = r := ⟨_, rfl⟩
      obtain ⟨x8, e8⟩ : ∃ r, bs.getD 8 0 = r := ⟨_, rfl⟩
      obtain ⟨x9, e9⟩ : ∃ r, bs.getD 9 0 = r := ⟨_, rfl⟩
      obtain ⟨x30, e30⟩ : ∃ r, bs.getD 30 0 = r := ⟨_, rfl⟩
      have HRA : Hid (intC (rdA bs) = #[.int .i64 r0, .int .i64 x8, .int .i64 x9, .int .i64 r1, .int .i64 r2, .int .i64 r3, .int .i64 x30]) := by
        show _ = _
        unfold rdA
        rw [e0, e1, e2, e3, e8, e9, e30]
        rfl
      have HD : Hid (decB bs = if x8 = 1 then decide (r2 = 0 ∧ r3 = 0) else (x8 == 0) && (x30 == 0)) := by
        show _ = _
        unfold decB
        rw [e2, e3, e8, e30]
      rw [HRA.out] at hend
      have HVK := Lib.hid hend
      have HBr := Lib.hid (HB0.out.trans (HT.out.below HB0.out.size (by simp)))
      clear e0 e1 e2 e3 e8 e9 e30 hend
      by_cases h0 : x8 = 0
      · subst h0
        have y1 : wr.cell? ⟨w.heap.size + 1, 1, none⟩ = some (.int .i64 0) := HVK.out.cell 1 rfl
        go_wp2_with fail
        clear y1
        obtain ⟨wd, hwd⟩ : ∃ W, wr.drew = W := ⟨_, rfl⟩
        have hbq : Below wr.heap.size wr wd := by rw [← hwd]; exact (Below.refl _ _).drew
        have hkd := HVK.out.after hbq
        have hzd := (HT.out.blk HKR.out (by simp)).after hbq
        have HBd := Lib.hid (HBr.out.trans (hbq.mono HBr.out.size))
        have HS2 : Hid (∀ W, Blk W (w.heap.size + 1) #[.int .i64 r0, .int .i64 0, .int .i64 x9, .int .i64 r1, .int .i64 r2, .int .i64 r3, .int .i64 x30] 56 → W.cell? ⟨w.heap.size + 1, 0, none⟩ = some (.int .i64 r0) ∧ W.cell? ⟨w.heap.size + 1, 1, none⟩ = some (.int .i64 0) ∧ W.cell? ⟨w.heap.size + 1, 2, none⟩ = some (.int .i64 x9) ∧ W.cell? ⟨w.heap.size + 1, 3, none⟩ = some (.int .i64 r1) ∧ W.cell? ⟨w.heap.size + 1, 4, none⟩ = some (.int .i64 r2) ∧ W.cell? ⟨w.heap.size + 1, 5, none⟩ = some (.int .i64 r3) ∧ W.cell? ⟨w.heap.size + 1, 6, none⟩ = some (.int .i64 x30)) := fun W h => ⟨h.cell 0 rfl, h.cell 1 rfl, h.cell 2 rfl, h.cell 3 rfl, h.cell 4 rfl, h.cell 5 rfl, h.cell 6 rfl⟩
        refine hL_start (fun W => W.cell? ⟨w.heap.size + 1, 0, none⟩ = some (.int .i64 r0) ∧ W.cell? ⟨w.heap.size + 1, 1, none⟩ = some (.int .i64 0) ∧ W.cell? ⟨w.heap.size + 1, 2, none⟩ = some (.int .i64 x9) ∧ W.cell? ⟨w.heap.size + 1, 3, none⟩ = some (.int .i64 r1) ∧ W.cell? ⟨w.heap.size + 1, 4, none⟩ = some (.int .i64 r2) ∧ W.cell? ⟨w.heap.size + 1, 5, none⟩ = some (.int .i64 r3) ∧ W.cell? ⟨w.heap.size + 1, 6, none⟩ = some (.int .i64 x30)) (by kernel_rfl) ?_
        have hSd := HS2.out _ hkd
        rw [hwd]
        clear hwd hbq
        refine hL_take (i := 0) (v := ?_) rfl (by kernel_rfl) (fun _ _ _ h => h) (by rfl) hSd ?_ ?_
        rotate_left 1
        · intro wS hSw
          obtain ⟨p0, p1, p2, p3, p4, p5, p6⟩ := hSw
          go_simp
          try with_reducible rfl
        try simp only [Act.put, List.setIfInBounds_toArray, List.set_cons_zero, List.set_cons_succ]
        refine hL_take (i := 1) (v := ?_) rfl (by kernel_rfl) (fun _ _ _ h => h) (by rfl) hSd ?_ ?_
        rotate_left 1
        · intro wS hSw
          obtain ⟨p0, p1, p2, p3, p4, p5, p6⟩ := hSw
          go_simp
          try with_reducible rfl
        try simp only [Act.put, List.setIfInBounds_toArray, List.set_cons_zero, List.set_cons_succ]
        refine hL_take (i := 2) (v := ?_) rfl (by kernel_rfl) (fun _ _ _ h => h) (by rfl) hSd ?_ ?_
        rotate_left 1
        · intro wS hSw
          obtain ⟨p0, p1, p2, p3, p4, p5, p6⟩ := hSw
          go_simp
          try with_reducible rfl
        try simp only [Act.put, List.setIfInBounds_toArray, List.set_cons_zero, List.set_cons_succ]
        refine hL_take (i := 3) (v := ?_) rfl (by kernel_rfl) (fun _ _ _ h => h) (by rfl) hSd ?_ ?_
        rotate_left 1
        · intro wS hSw
          obtain ⟨p0, p1, p2, p3, p4, p5, p6⟩ := hSw
          go_simp
          try with_reducible rfl
        try simp only [Act.put, List.setIfInBounds_toArray, List.set_cons_zero, List.set_cons_succ]
        have b0 : wd.cell? ⟨w.heap.size, 0, none⟩ = some (.int .i64 0) := (hzd).cell 0 rfl
        have b1 : wd.cell? ⟨w.heap.size, 1, none⟩ = some (.int .i64 0) := (hzd).cell 1 rfl
        have b2 : wd.cell? ⟨w.heap.size, 2, none⟩ = some (.int .i64 0) := (hzd).cell 2 rfl
        have b3 : wd.cell? ⟨w.heap.size, 3, none⟩ = some (.int .i64 0) := (hzd).cell 3 rfl
        have b4 : wd.cell? ⟨w.heap.size, 4, none⟩ = some (.int .i64 0) := (hzd).cell 4 rfl
        have b5 : wd.cell? ⟨w.heap.size, 5, none⟩ = some (.int .i64 0) := (hzd).cell 5 rfl
        have b6 : wd.cell? ⟨w.heap.size, 6, none⟩ = some (.int .i64 0) := (hzd).cell 6 rfl
        have f0 := (hzd).free 0
        have f1 := (hzd).free 1
        have f2 := (hzd).free 2
        have f3 := (hzd).free 3
        have f4 := (hzd).free 4
        have f5 := (hzd).free 5
        have f6 := (hzd).free 6
        refine hL_next (i := 4) rfl (by kernel_rfl) (fun K hK => ?_)
        go_simp
        have hk4 : Blk (((((((wd.setCell ⟨w.heap.size, 0, none⟩ (.int .i64 r0)).setCell ⟨w.heap.size, 1, none⟩ (.int .i64 0)).setCell ⟨w.heap.size, 2, none⟩ (.int .i64 x9)).setCell ⟨w.heap.size, 3, none⟩ (.int .i64 r1)).setCell ⟨w.heap.size, 4, none⟩ (.int .i64 r2)).setCell ⟨w.heap.size, 5, none⟩ (.int .i64 r3)).setCell ⟨w.heap.size, 6, none⟩ (.int .i64 x30)) (w.heap.size + 1) #[.int .i64 r0, .int .i64 0, .int .i64 x9, .int .i64 r1, .int .i64 r2, .int .i64 r3, .int .i64 x30] 56 := ((((((hkd.far 0 _ (by omega)).far 1 _ (by omega)).far 2 _ (by omega)).far 3 _ (by omega)).far 4 _ (by omega)).far 5 _ (by omega)).far 6 _ (by omega)
        have kz := set7 hzd (.int .i64 r0) (.int .i64 0) (.int .i64 x9) (.int .i64 r1) (.int .i64 r2) (.int .i64 r3) (.int .i64 x30)
        have hBz := below_setCells (below_setCells (below_setCells (below_setCells (below_setCells (below_setCells (below_setCells HBd.out (Nat.le_refl w.heap.size) 0 (.int .i64 r0)) (Nat.le_refl w.heap.size) 1 (.int .i64 0)) (Nat.le_refl w.heap.size) 2 (.int .i64 x9)) (Nat.le_refl w.heap.size) 3 (.int .i64 r1)) (Nat.le_refl w.heap.size) 4 (.int .i64 r2)) (Nat.le_refl w.heap.size) 5 (.int .i64 r3)) (Nat.le_refl w.heap.size) 6 (.int .i64 x30)
        have hSd4 := HS2.out _ hk4
        refine hK.out _ _ (hSd4) ?_
        clear hK K
        try simp only [Act.put, List.setIfInBounds_toArray, List.set_cons_zero, List.set_cons_succ]
        refine hL_take (i := 5) (v := ?_) rfl (by kernel_rfl) (fun _ _ _ h => h) (by rfl) hSd4 ?_ ?_
        rotate_left 1
        · intro wS hSw
          obtain ⟨p0, p1, p2, p3, p4, p5, p6⟩ := hSw
          go_simp
          try with_reducible rfl
        try simp only [Act.put, List.setIfInBounds_toArray, List.set_cons_zero, List.set_cons_succ]
        refine wpAnyH_done (by kernel_rfl) ?_ _
        have e0 := kz.cell 0 rfl
        have e1 := kz.cell 1 rfl
        have e2 := kz.cell 2 rfl
        have e3 := kz.cell 3 rfl
        have e4 := kz.cell 4 rfl
        have e5 := kz.cell 5 rfl
        have e6 := kz.cell 6 rfl
        go_wp2_with fail
        refine bodyPost_ret (v := .tuple #[.agg #[.int .i64 r0, .int .i64 0, .int .i64 x9, .int .i64 r1, .int .i64 r2, .int .i64 r3, .int .i64 x30], .bool (x30 == 0)]) (by simp [results, Try.results20, go_sem, e0, e1, e2, e3, e4, e5, e6]) rfl ⟨?_, hBz⟩
        rw [HRA.out, HD.out]
        rw [if_neg (by decide)]; simp
      · have d0 : (x8 == 0) = false := by simpa using h0
        by_cases h1 : x8 = 1
        · subst h1
          by_cases h2 : r2 = 0
          · have d2 : (r2 == 0) = true := by simpa using h2
            have H2 := Lib.hid h2
            clear h2
            have y1 : wr.cell? ⟨w.heap.size + 1, 1, none⟩ = some (.int .i64 1) := HVK.out.cell 1 rfl
            go_wp2_with fail
            clear y1
            obtain ⟨wd, hwd⟩ : ∃ W, wr.drew = W := ⟨_, rfl⟩
            have hbq : Below wr.heap.size wr wd := by rw [← hwd]; exact (Below.refl _ _).drew
            have hkd := HVK.out.after hbq
            have hzd := (HT.out.blk HKR.out (by simp)).after hbq
            have HBd := Lib.hid (HBr.out.trans (hbq.mono HBr.out.size))
            have HS2 : Hid (∀ W, Blk W (w.heap.size + 1) #[.int .i64 r0, .int .i64 1, .int .i64 x9, .int .i64 r1, .int .i64 r2, .int .i64 r3, .int .i64 x30] 56 → W.cell? ⟨w.heap.size + 1, 0, none⟩ = some (.int .i64 r0) ∧ W.cell? ⟨w.heap.size + 1, 1, none⟩ = some (.int .i64 1) ∧ W.cell? ⟨w.heap.size + 1, 2, none⟩ = some (.int .i64 x9) ∧ W.cell? ⟨w.heap.size + 1, 3, none⟩ = some (.int .i64 r1) ∧ W.cell? ⟨w.heap.size + 1, 4, none⟩ = some (.int .i64 r2) ∧ W.cell? ⟨w.heap.size + 1, 5, none⟩ = some (.int .i64 r3) ∧ W.cell? ⟨w.heap.size + 1, 6, none⟩ = some (.int .i64 x30)) := fun W h => ⟨h.cell 0 rfl, h.cell 1 rfl, h.cell 2 rfl, h.cell 3 rfl, h.cell 4 rfl, h.cell 5 rfl, h.cell 6 rfl⟩
            refine hL_start (fun W => W.cell? ⟨w.heap.size + 1, 0, none⟩ = some (.int .i64 r0) ∧ W.cell? ⟨w.heap.size + 1, 1, none⟩ = some (.int .i64 1) ∧ W.cell? ⟨w.heap.size + 1, 2, none⟩ = some (.int .i64 x9) ∧ W.cell? ⟨w.heap.size + 1, 3, none⟩ = some (.int .i64 r1) ∧ W.cell? ⟨w.heap.size + 1, 4, none⟩ = some (.int .i64 r2) ∧ W.cell? ⟨w.heap.size + 1, 5, none⟩ = some (.int .i64 r3) ∧ W.cell? ⟨w.heap.size + 1, 6, none⟩ = some (.int .i64 x30)) (by kernel_rfl) ?_
            have hSd := HS2.out _ hkd
            rw [hwd]
            clear hwd hbq
            refine hL_take (i := 0) (v := ?_) rfl (by kernel_rfl) (fun _ _ _ h => h) (by rfl) hSd ?_ ?_
            rotate_left 1
            · intro wS hSw
              obtain ⟨p0, p1, p2, p3, p4, p5, p6⟩ := hSw
              go_simp
              try with_reducible rfl
            try simp only [Act.put, List.setIfInBounds_toArray, List.set_cons_zero, List.set_cons_succ]
            refine hL_take (i := 1) (v := ?_) rfl (by kernel_rfl) (fun _ _ _ h => h) (by rfl) hSd ?_ ?_
            rotate_left 1
            · intro wS hSw
              obtain ⟨p0, p1, p2, p3, p4, p5, p6⟩ := hSw
              go_simp
              try with_reducible rfl
            try simp only [Act.put, List.setIfInBounds_toArray, List.set_cons_zero, List.set_cons_succ]
            refine hL_take (i := 2) (v := ?_) rfl (by kernel_rfl) (fun _ _ _ h => h) (by rfl) hSd ?_ ?_
            rotate_left 1
            · intro wS hSw
              obtain ⟨p0, p1, p2, p3, p4, p5, p6⟩ := hSw
              go_simp
              try with_reducible rfl
            try simp only [Act.put, List.setIfInBounds_toArray, List.set_cons_zero, List.set_cons_succ]
            refine hL_take (i := 3) (v := ?_) rfl (by kernel_rfl) (fun _ _ _ h => h) (by rfl) hSd ?_ ?_
            rotate_left 1
            · intro wS hSw
              obtain ⟨p0, p1, p2, p3, p4, p5, p6⟩ := hSw
              go_simp
              try with_reducible rfl
            try simp only [Act.put, List.setIfInBounds_toArray, List.set_cons_zero, List.set_cons_succ]
            refine hL_take (i := 4) (v := ?_) rfl (by kernel_rfl) (fun _ _ _ h => h) (by rfl) hSd ?_ ?_
            rotate_left 1
            · intro wS hSw
              obtain ⟨p0, p1, p2, p3, p4, p5, p6⟩ := hSw
              go_simp
              try with_reducible rfl
            try simp only [Act.put, List.setIfInBounds_toArray, List.set_cons_zero, List.set_cons_succ]
            refine hL_take (i := 5) (v := ?_) rfl (by kernel_rfl) (fun _ _ _ h => h) (by rfl) hSd ?_ ?_
            rotate_left 1
            · intro wS hSw
              obtain ⟨p0, p1, p2, p3, p4, p5, p6⟩ := hSw
              go_simp
              try with_reducible rfl
            try simp only [Act.put, List.setIfInBounds_toArray, List.set_cons_zero, List.set_cons_succ]
            refine hL_take (i := 6) (v := ?_) rfl (by kernel_rfl) (fun _ _ _ h => h) (by rfl) hSd ?_ ?_
            rotate_left 1
            · intro wS hSw
              obtain ⟨p0, p1, p2, p3, p4, p5, p6⟩ := hSw
              go_simp
              try with_reducible rfl
            try simp only [Act.put, List.setIfInBounds_toArray, List.set_cons_zero, List.set_cons_succ]
            refine hL_take (i := 7) (v := ?_) rfl (by kernel_rfl) (fun _ _ _ h => h) (by rfl) hSd ?_ ?_
            rotate_left 1
            · intro wS hSw
              obtain ⟨p0, p1, p2, p3, p4, p5, p6⟩ := hSw
              go_simp
              try with_reducible rfl
            try simp only [Act.put, List.setIfInBounds_toArray, List.set_cons_zero, List.set_cons_succ]
            refine hL_take (i := 8) (v := ?_) rfl (by kernel_rfl) (fun _ _ _ h => h) (by rfl) hSd ?_ ?_
            rotate_left 1
            · intro wS hSw
              obtain ⟨p0, p1, p2, p3, p4, p5, p6⟩ := hSw
              go_simp
              try with_reducible rfl
            try simp only [Act.put, List.setIfInBounds_toArray, List.set_cons_zero, List.set_cons_succ]
            refine hL_take (i := 9) (v := ?_) rfl (by kernel_rfl) (fun _ _ _ h => h) (by rfl) hSd ?_ ?_
            rotate_left 1
            · intro wS hSw
              obtain ⟨p0, p1, p2, p3, p4, p5, p6⟩ := hSw
              go_simp
              try with_reducible rfl
            try simp only [Act.put, List.setIfInBounds_toArray, List.set_cons_zero, List.set_cons_succ]
            refine hL_take (i := 10) (v := ?_) rfl (by kernel_rfl) (fun _ _ _ h => h) (by rfl) hSd ?_ ?_
            rotate_left 1
            · intro wS hSw
              obtain ⟨p0, p1, p2, p3, p4, p5, p6⟩ := hSw
              go_simp
              try with_reducible rfl
            try simp only [Act.put, List.setIfInBounds_toArray, List.set_cons_zero, List.set_cons_succ]
            refine hL_take (i := 11) (v := ?_) rfl (by kernel_rfl) (fun _ _ _ h => h) (by rfl) hSd ?_ ?_
            rotate_left 1
            · intro wS hSw
              obtain ⟨p0, p1, p2, p3, p4, p5, p6⟩ := hSw
              go_simp
              try with_reducible rfl
            try simp only [Act.put, List.setIfInBounds_toArray, List.set_cons_zero, List.set_cons_succ]
            refine hL_take (i := 12) (v := ?_) rfl (by kernel_rfl) (fun _ _ _ h => h) (by rfl) hSd ?_ ?_
            rotate_left 1
            · intro wS hSw
              obtain ⟨p0, p1, p2, p3, p4, p5, p6⟩ := hSw
              go_simp
              try with_reducible rfl
            try simp only [Act.put, List.setIfInBounds_toArray, List.set_cons_zero, List.set_cons_succ]
            refine hL_take (i := 13) (v := ?_) rfl (by kernel_rfl) (fun _ _ _ h => h) (by rfl) hSd ?_ ?_
            rotate_left 1
            · intro wS hSw
              obtain ⟨p0, p1, p2, p3, p4, p5, p6⟩ := hSw
              go_simp
              try with_reducible rfl
            try simp only [Act.put, List.setIfInBounds_toArray, List.set_cons_zero, List.set_cons_succ]
            have b0 : wd.cell? ⟨w.heap.size, 0, none⟩ = some (.int .i64 0) := (hzd).cell 0 rfl
            have b1 : wd.cell? ⟨w.heap.size, 1, none⟩ = some (.int .i64 0) := (hzd).cell 1 rfl
            have b2 : wd.cell? ⟨w.heap.size, 2, none⟩ = some (.int .i64 0) := (hzd).cell 2 rfl
            have b3 : wd.cell? ⟨w.heap.size, 3, none⟩ = some (.int .i64 0) := (hzd).cell 3 rfl
            have b4 : wd.cell? ⟨w.heap.size, 4, none⟩ = some (.int .i64 0) := (hzd).cell 4 rfl
            have b5 : wd.cell? ⟨w.heap.size, 5, none⟩ = some (.int .i64 0) := (hzd).cell 5 rfl
            have b6 : wd.cell? ⟨w.heap.size, 6, none⟩ = some (.int .i64 0) := (hzd).cell 6 rfl
            have f0 := (hzd).free 0
            have f1 := (hzd).free 1
            have f2 := (hzd).free 2
            have f3 := (hzd).free 3
            have f4 := (hzd).free 4
            have f5 := (hzd).free 5
            have f6 := (hzd).free 6
            refine hL_next (i := 14) rfl (by kernel_rfl) (fun K hK => ?_)
            go_simp
            have hk4 : Blk (((((((wd.setCell ⟨w.heap.size, 0, none⟩ (.int .i64 r0)).setCell ⟨w.heap.size, 1, none⟩ (.int .i64 1)).setCell ⟨w.heap.size, 2, none⟩ (.int .i64 x9)).setCell ⟨w.heap.size, 3, none⟩ (.int .i64 r1)).setCell ⟨w.heap.size, 4, none⟩ (.int .i64 r2)).setCell ⟨w.heap.size, 5, none⟩ (.int .i64 r3)).setCell ⟨w.heap.size, 6, none⟩ (.int .i64 x30)) (w.heap.size + 1) #[.int .i64 r0, .int .i64 1, .int .i64 x9, .int .i64 r1, .int .i64 r2, .int .i64 r3, .int .i64 x30] 56 := ((((((hkd.far 0 _ (by omega)).far 1 _ (by omega)).far 2 _ (by omega)).far 3 _ (by omega)).far 4 _ (by omega)).far 5 _ (by omega)).far 6 _ (by omega)
            have kz := set7 hzd (.int .i64 r0) (.int .i64 1) (.int .i64 x9) (.int .i64 r1) (.int .i64 r2) (.int .i64 r3) (.int .i64 x30)
            have hBz := below_setCells (below_setCells (below_setCells (below_setCells (below_setCells (below_setCells (below_setCells HBd.out (Nat.le_refl w.heap.size) 0 (.int .i64 r0)) (Nat.le_refl w.heap.size) 1 (.int .i64 1)) (Nat.le_refl w.heap.size) 2 (.int .i64 x9)) (Nat.le_refl w.heap.size) 3 (.int .i64 r1)) (Nat.le_refl w.heap.size) 4 (.int .i64 r2)) (Nat.le_refl w.heap.size) 5 (.int .i64 r3)) (Nat.le_refl w.heap.size) 6 (.int .i64 x30)
            have hSd4 := HS2.out _ hk4
            refine hK.out _ _ (hSd4) ?_
            clear hK K
            try simp only [Act.put, List.setIfInBounds_toArray, List.set_cons_zero, List.set_cons_succ]
            refine hL_take (i := 15) (v := ?_) rfl (by kernel_rfl) (fun _ _ _ h => h) (by rfl) hSd4 ?_ ?_
            rotate_left 1
            · intro wS hSw
              obtain ⟨p0, p1, p2, p3, p4, p5, p6⟩ := hSw
              go_simp
              try with_reducible rfl
            try simp only [Act.put, List.setIfInBounds_toArray, List.set_cons_zero, List.set_cons_succ]
            refine wpAnyH_done (by kernel_rfl) ?_ _
            have e0 := kz.cell 0 rfl
            have e1 := kz.cell 1 rfl
            have e2 := kz.cell 2 rfl
            have e3 := kz.cell 3 rfl
            have e4 := kz.cell 4 rfl
            have e5 := kz.cell 5 rfl
            have e6 := kz.cell 6 rfl
            go_wp2_with fail
            refine bodyPost_ret (v := .tuple #[.agg #[.int .i64 r0, .int .i64 1, .int .i64 x9, .int .i64 r1, .int .i64 r2, .int .i64 r3, .int .i64 x30], .bool (r3 == 0)]) (by simp [results, Try.results20, go_sem, e0, e1, e2, e3, e4, e5, e6]) rfl ⟨?_, hBz⟩
            rw [HRA.out, HD.out]
            rw [if_pos trivial, H2.out]; simp; rfl
          · have d2 : (r2 == 0) = false := by simpa using h2
            have y1 : wr.cell? ⟨w.heap.size + 1, 1, none⟩ = some (.int .i64 1) := HVK.out.cell 1 rfl
            go_wp2_with fail
            clear y1
            obtain ⟨wd, hwd⟩ : ∃ W, wr.drew = W := ⟨_, rfl⟩
            have hbq : Below wr.heap.size wr wd := by rw [← hwd]; exact (Below.refl _ _).drew
            have hkd := HVK.out.after hbq
            have hzd := (HT.out.blk HKR.out (by simp)).after hbq
            have HBd := Lib.hid (HBr.out.trans (hbq.mono HBr.out.size))
            have HS2 : Hid (∀ W, Blk W (w.heap.size + 1) #[.int .i64 r0, .int .i64 1, .int .i64 x9, .int .i64 r1, .int .i64 r2, .int .i64 r3, .int .i64 x30] 56 → W.cell? ⟨w.heap.size + 1, 0, none⟩ = some (.int .i64 r0) ∧ W.cell? ⟨w.heap.size + 1, 1, none⟩ = some (.int .i64 1) ∧ W.cell? ⟨w.heap.size + 1, 2, none⟩ = some (.int .i64 x9) ∧ W.cell? ⟨w.heap.size + 1, 3, none⟩ = some (.int .i64 r1) ∧ W.cell? ⟨w.heap.size + 1, 4, none⟩ = some (.int .i64 r2) ∧ W.cell? ⟨w.heap.size + 1, 5, none⟩ = some (.int .i64 r3) ∧ W.cell? ⟨w.heap.size + 1, 6, none⟩ = some (.int .i64 x30)) := fun W h => ⟨h.cell 0 rfl, h.cell 1 rfl, h.cell 2 rfl, h.cell 3 rfl, h.cell 4 rfl, h.cell 5 rfl, h.cell 6 rfl⟩
            refine hL_start (fun W => W.cell? ⟨w.heap.size + 1, 0, none⟩ = some (.int .i64 r0) ∧ W.cell? ⟨w.heap.size + 1, 1, none⟩ = some (.int .i64 1) ∧ W.cell? ⟨w.heap.size + 1, 2, none⟩ = some (.int .i64 x9) ∧ W.cell? ⟨w.heap.size + 1, 3, none⟩ = some (.int .i64 r1) ∧ W.cell? ⟨w.heap.size + 1, 4, none⟩ = some (.int .i64 r2) ∧ W.cell? ⟨w.heap.size + 1, 5, none⟩ = some (.int .i64 r3) ∧ W.cell? ⟨w.heap.size + 1, 6, none⟩ = some (.int .i64 x30)) (by kernel_rfl) ?_
            have hSd := HS2.out _ hkd
            rw [hwd]
            clear hwd hbq
            refine hL_take (i := 0) (v := ?_) rfl (by kernel_rfl) (fun _ _ _ h => h) (by rfl) hSd ?_ ?_
            rotate_left 1
            · intro wS hSw
              obtain ⟨p0, p1, p2, p3, p4, p5, p6⟩ := hSw
              go_simp
              try with_reducible rfl
            try simp only [Act.put, List.setIfInBounds_toArray, List.set_cons_zero, List.set_cons_succ]
            refine hL_take (i := 1) (v := ?_) rfl (by kernel_rfl) (fun _ _ _ h => h) (by rfl) hSd ?_ ?_
            rotate_left 1
            · intro wS hSw
              obtain ⟨p0, p1, p2, p3, p4, p5, p6⟩ := hSw
              go_simp
              try with_reducible rfl
            try simp only [Act.put, List.setIfInBounds_toArray, List.set_cons_zero, List.set_cons_succ]
            refine hL_take (i := 2) (v := ?_) rfl (by kernel_rfl) (fun _ _ _ h => h) (by rfl) hSd ?_ ?_
            rotate_left 1
            · intro wS hSw
              obtain ⟨p0, p1, p2, p3, p4, p5, p6⟩ := hSw
              go_simp
              try with_reducible rfl
            try simp only [Act.put, List.setIfInBounds_toArray, List.set_cons_zero, List.set_cons_succ]
            refine hL_take (i := 3) (v := ?_) rfl (by kernel_rfl) (fun _ _ _ h => h) (by rfl) hSd ?_ ?_
            rotate_left 1
            · intro wS hSw
              obtain ⟨p0, p1, p2, p3, p4, p5, p6⟩ := hSw
              go_simp
              try with_reducible rfl
            try simp only [Act.put, List.setIfInBounds_toArray, List.set_cons_zero, List.set_cons_succ]
            refine hL_take (i := 4) (v := ?_) rfl (by kernel_rfl) (fun _ _ _ h => h) (by rfl) hSd ?_ ?_
            rotate_left 1
            · intro wS hSw
              obtain ⟨p0, p1, p2, p3, p4, p5, p6⟩ := hSw
              go_simp
              try with_reducible rfl
            try simp only [Act.put, List.setIfInBounds_toArray, List.set_cons_zero, List.set_cons_succ]
            refine hL_take (i := 5) (v := ?_) rfl (by kernel_rfl) (fun _ _ _ h => h) (by rfl) hSd ?_ ?_
            rotate_left 1
            · intro wS hSw
              obtain ⟨p0, p1, p2, p3, p4, p5, p6⟩ := hSw
              go_simp
              try with_reducible rfl
            try simp only [Act.put, List.setIfInBounds_toArray, List.set_cons_zero, List.set_cons_succ]
            refine hL_take (i := 6) (v := ?_) rfl (by kernel_rfl) (fun _ _ _ h => h) (by rfl) hSd ?_ ?_
            rotate_left 1
            · intro wS hSw
              obtain ⟨p0, p1, p2, p3, p4, p5, p6⟩ := hSw
              go_simp
              try with_reducible rfl
            try simp only [Act.put, List.setIfInBounds_toArray, List.set_cons_zero, List.set_cons_succ]
            refine hL_take (i := 7) (v := ?_) rfl (by kernel_rfl) (fun _ _ _ h => h) (by rfl) hSd ?_ ?_
            rotate_left 1
            · intro wS hSw
              obtain ⟨p0, p1, p2, p3, p4, p5, p6⟩ := hSw
              go_simp
              try with_reducible rfl
            try simp only [Act.put, List.setIfInBounds_toArray, List.set_cons_zero, List.set_cons_succ]
            refine hL_take (i := 8) (v := ?_) rfl (by kernel_rfl) (fun _ _ _ h => h) (by rfl) hSd ?_ ?_
            rotate_left 1
            · intro wS hSw
              obtain ⟨p0, p1, p2, p3, p4, p5, p6⟩ := hSw
              go_simp
              try with_reducible rfl
            try simp only [Act.put, List.setIfInBounds_toArray, List.set_cons_zero, List.set_cons_succ]
            refine hL_take (i := 9) (v := ?_) rfl (by kernel_rfl) (fun _ _ _ h => h) (by rfl) hSd ?_ ?_
            rotate_left 1
            · intro wS hSw
              obtain ⟨p0, p1, p2, p3, p4, p5, p6⟩ := hSw
              go_simp
              try with_reducible rfl
            try simp only [Act.put, List.setIfInBounds_toArray, List.set_cons_zero, List.set_cons_succ]
            refine hL_skip (i := 10) rfl (by kernel_rfl) (fun _ _ _ h => h) (by rfl) hSd ?_
            try simp only [Act.put, List.setIfInBounds_toArray, List.set_cons_zero, List.set_cons_succ]
            refine hL_skip (i := 11) rfl (by kernel_rfl) (fun _ _ _ h => h) (by rfl) hSd ?_
            try simp only [Act.put, List.setIfInBounds_toArray, List.set_cons_zero, List.set_cons_succ]
            refine hL_skip (i := 12) rfl (by kernel_rfl) (fun _ _ _ h => h) (by rfl) hSd ?_
            try simp only [Act.put, List.setIfInBounds_toArray, List.set_cons_zero, List.set_cons_succ]
            refine hL_take (i := 13) (v := ?_) rfl (by kernel_rfl) (fun _ _ _ h => h) (by rfl) hSd ?_ ?_
            rotate_left 1
            · intro wS hSw
              obtain ⟨p0, p1, p2, p3, p4, p5, p6⟩ := hSw
              go_simp
              try with_reducible rfl
            try simp only [Act.put, List.setIfInBounds_toArray, List.set_cons_zero, List.set_cons_succ]
            have b0 : wd.cell? ⟨w.heap.size, 0, none⟩ = some (.int .i64 0) := (hzd).cell 0 rfl
            have b1 : wd.cell? ⟨w.heap.size, 1, none⟩ = some (.int .i64 0) := (hzd).cell 1 rfl
            have b2 : wd.cell? ⟨w.heap.size, 2, none⟩ = some (.int .i64 0) := (hzd).cell 2 rfl
            have b3 : wd.cell? ⟨w.heap.size, 3, none⟩ = some (.int .i64 0) := (hzd).cell 3 rfl
            have b4 : wd.cell? ⟨w.heap.size, 4, none⟩ = some (.int .i64 0) := (hzd).cell 4 rfl
            have b5 : wd.cell? ⟨w.heap.size, 5, none⟩ = some (.int .i64 0) := (hzd).cell 5 rfl
            have b6 : wd.cell? ⟨w.heap.size, 6, none⟩ = some (.int .i64 0) := (hzd).cell 6 rfl
            have f0 := (hzd).free 0
            have f1 := (hzd).free 1
            have f2 := (hzd).free 2
            have f3 := (hzd).free 3
            have f4 := (hzd).free 4
            have f5 := (hzd).free 5
            have f6 := (hzd).free 6
            refine hL_next (i := 14) rfl (by kernel_rfl) (fun K hK => ?_)
            go_simp
            have hk4 : Blk (((((((wd.setCell ⟨w.heap.size, 0, none⟩ (.int .i64 r0)).setCell ⟨w.heap.size, 1, none⟩ (.int .i64 1)).setCell ⟨w.heap.size, 2, none⟩ (.int .i64 x9)).setCell ⟨w.heap.size, 3, none⟩ (.int .i64 r1)).setCell ⟨w.heap.size, 4, none⟩ (.int .i64 r2)).setCell ⟨w.heap.size, 5, none⟩ (.int .i64 r3)).setCell ⟨w.heap.size, 6, none⟩ (.int .i64 x30)) (w.heap.size + 1) #[.int .i64 r0, .int .i64 1, .int .i64 x9, .int .i64 r1, .int .i64 r2, .int .i64 r3, .int .i64 x30] 56 := ((((((hkd.far 0 _ (by omega)).far 1 _ (by omega)).far 2 _ (by omega)).far 3 _ (by omega)).far 4 _ (by omega)).far 5 _ (by omega)).far 6 _ (by omega)
            have kz := set7 hzd (.int .i64 r0) (.int .i64 1) (.int .i64 x9) (.int .i64 r1) (.int .i64 r2) (.int .i64 r3) (.int .i64 x30)
            have hBz := below_setCells (below_setCells (below_setCells (below_setCells (below_setCells (below_setCells (below_setCells HBd.out (Nat.le_refl w.heap.size) 0 (.int .i64 r0)) (Nat.le_refl w.heap.size) 1 (.int .i64 1)) (Nat.le_refl w.heap.size) 2 (.int .i64 x9)) (Nat.le_refl w.heap.size) 3 (.int .i64 r1)) (Nat.le_refl w.heap.size) 4 (.int .i64 r2)) (Nat.le_refl w.heap.size) 5 (.int .i64 r3)) (Nat.le_refl w.heap.size) 6 (.int .i64 x30)
            have hSd4 := HS2.out _ hk4
            refine hK.out _ _ (hSd4) ?_
            clear hK K
            try simp only [Act.put, List.setIfInBounds_toArray, List.set_cons_zero, List.set_cons_succ]
            refine hL_take (i := 15) (v := ?_) rfl (by kernel_rfl) (fun _ _ _ h => h) (by rfl) hSd4 ?_ ?_
            rotate_left 1
            · intro wS hSw
              obtain ⟨p0, p1, p2, p3, p4, p5, p6⟩ := hSw
              go_simp
              try with_reducible rfl
            try simp only [Act.put, List.setIfInBounds_toArray, List.set_cons_zero, List.set_cons_succ]
            refine wpAnyH_done (by kernel_rfl) ?_ _
            have e0 := kz.cell 0 rfl
            have e1 := kz.cell 1 rfl
            have e2 := kz.cell 2 rfl
            have e3 := kz.cell 3 rfl
            have e4 := kz.cell 4 rfl
            have e5 := kz.cell 5 rfl
            have e6 := kz.cell 6 rfl
            go_wp2_with fail
            refine bodyPost_ret (v := .tuple #[.agg #[.int .i64 r0, .int .i64 1, .int .i64 x9, .int .i64 r1, .int .i64 r2, .int .i64 r3, .int .i64 x30], .bool false]) (by simp [results, Try.results20, go_sem, e0, e1, e2, e3, e4, e5, e6]) rfl ⟨?_, hBz⟩
            rw [HRA.out, HD.out]
            rw [if_pos trivial]; simp [h2]
        · have d1 : (x8 == 1) = false := by simpa using h1
          have y1 : wr.cell? ⟨w.heap.size + 1, 1, none⟩ = some (.int .i64 x8) := HVK.out.cell 1 rfl
          go_wp2_with fail
          clear y1
          obtain ⟨wd, hwd⟩ : ∃ W, wr.drew = W := ⟨_, rfl⟩
          have hbq : Below wr.heap.size wr wd := by rw [← hwd]; exact (Below.refl _ _).drew
          have hkd := HVK.out.after hbq
          have hzd := (HT.out.blk HKR.out (by simp)).after hbq
          have HBd := Lib.hid (HBr.out.trans (hbq.mono HBr.out.size))
          have HS2 : Hid (∀ W, Blk W (w.heap.size + 1) #[.int .i64 r0, .int .i64 x8, .int .i64 x9, .int .i64 r1, .int .i64 r2, .int .i64 r3, .int .i64 x30] 56 → W.cell? ⟨w.heap.size + 1, 0, none⟩ = some (.int .i64 r0) ∧ W.cell? ⟨w.heap.size + 1, 1, none⟩ = some (.int .i64 x8) ∧ W.cell? ⟨w.heap.size + 1, 2, none⟩ = some (.int .i64 x9) ∧ W.cell? ⟨w.heap.size + 1, 3, none⟩ = some (.int .i64 r1) ∧ W.cell? ⟨w.heap.size + 1, 4, none⟩ = some (.int .i64 r2) ∧ W.cell? ⟨w.heap.size + 1, 5, none⟩ = some (.int .i64 r3) ∧ W.cell? ⟨w.heap.size + 1, 6, none⟩ = some (.int .i64 x30)) := fun W h => ⟨h.cell 0 rfl, h.cell 1 rfl, h.cell 2 rfl, h.cell 3 rfl, h.cell 4 rfl, h.cell 5 rfl, h.cell 6 rfl⟩
          refine hL_start (fun W => W.cell? ⟨w.heap.size + 1, 0, none⟩ = some (.int .i64 r0) ∧ W.cell? ⟨w.heap.size + 1, 1, none⟩ = some (.int .i64 x8) ∧ W.cell? ⟨w.heap.size + 1, 2, none⟩ = some (.int .i64 x9) ∧ W.cell? ⟨w.heap.size + 1, 3, none⟩ = some (.int .i64 r1) ∧ W.cell? ⟨w.heap.size + 1, 4, none⟩ = some (.int .i64 r2) ∧ W.cell? ⟨w.heap.size + 1, 5, none⟩ = some (.int .i64 r3) ∧ W.cell? ⟨w.heap.size + 1, 6, none⟩ = some (.int .i64 x30)) (by kernel_rfl) ?_
          have hSd := HS2.out _ hkd
          rw [hwd]
          clear hwd hbq
          refine hL_take (i := 0) (v := ?_) rfl (by kernel_rfl) (fun _ _ _ h => h) (by rfl) hSd ?_ ?_
          rotate_left 1
          · intro wS hSw
            obtain ⟨p0, p1, p2, p3, p4, p5, p6⟩ := hSw
            go_simp
            try with_reducible rfl
          try simp only [Act.put, List.setIfInBounds_toArray, List.set_cons_zero, List.set_cons_succ]
          refine hL_take (i := 1) (v := ?_) rfl (by kernel_rfl) (fun _ _ _ h => h) (by rfl) hSd ?_ ?_
          rotate_left 1
          · intro wS hSw
            obtain ⟨p0, p1, p2, p3, p4, p5, p6⟩ := hSw
            go_simp
            try with_reducible rfl
          try simp only [Act.put, List.setIfInBounds_toArray, List.set_cons_zero, List.set_cons_succ]
          refine hL_take (i := 2) (v := ?_) rfl (by kernel_rfl) (fun _ _ _ h => h) (by rfl) hSd ?_ ?_
          rotate_left 1
          · intro wS hSw
            obtain ⟨p0, p1, p2, p3, p4, p5, p6⟩ := hSw
            go_simp
            try with_reducible rfl
          try simp only [Act.put, List.setIfInBounds_toArray, List.set_cons_zero, List.set_cons_succ]
          refine hL_take (i := 3) (v := ?_) rfl (by kernel_rfl) (fun _ _ _ h => h) (by rfl) hSd ?_ ?_
          rotate_left 1
          · intro wS hSw
            obtain ⟨p0, p1, p2, p3, p4, p5, p6⟩ := hSw
            go_simp
            try with_reducible rfl
          try simp only [Act.put, List.setIfInBounds_toArray, List.set_cons_zero, List.set_cons_succ]
          refine hL_take (i := 4) (v := ?_) rfl (by kernel_rfl) (fun _ _ _ h => h) (by rfl) hSd ?_ ?_
          rotate_left 1
          · intro wS hSw
            obtain ⟨p0, p1, p2, p3, p4, p5, p6⟩ := hSw
            go_simp
            try with_reducible rfl
          try simp only [Act.put, List.setIfInBounds_toArray, List.set_cons_zero, List.set_cons_succ]
          refine hL_skip (i := 5) rfl (by kernel_rfl) (fun _ _ _ h => h) (by rfl) hSd ?_
          try simp only [Act.put, List.setIfInBounds_toArray, List.set_cons_zero, List.set_cons_succ]
          refine hL_skip (i := 6) rfl (by kernel_rfl) (fun _ _ _ h => h) (by rfl) hSd ?_
          try simp only [Act.put, List.setIfInBounds_toArray, List.set_cons_zero, List.set_cons_succ]
          refine hL_skip (i := 7) rfl (by kernel_rfl) (fun _ _ _ h => h) (by rfl) hSd ?_
          try simp only [Act.put, List.setIfInBounds_toArray, List.set_cons_zero, List.set_cons_succ]
          refine hL_take (i := 8) (v := ?_) rfl (by kernel_rfl) (fun _ _ _ h => h) (by rfl) hSd ?_ ?_
          rotate_left 1
          · intro wS hSw
            obtain ⟨p0, p1, p2, p3, p4, p5, p6⟩ := hSw
            go_simp
            try with_reducible rfl
          try simp only [Act.put, List.setIfInBounds_toArray, List.set_cons_zero, List.set_cons_succ]
          refine hL_take (i := 9) (v := ?_) rfl (by kernel_rfl) (fun _ _ _ h => h) (by rfl) hSd ?_ ?_
          rotate_left 1
          · intro wS hSw
            obtain ⟨p0, p1, p2, p3, p4, p5, p6⟩ := hSw
            go_simp
            try with_reducible rfl
          try simp only [Act.put, List.setIfInBounds_toArray, List.set_cons_zero, List.set_cons_succ]
          refine hL_skip (i := 10) rfl (by kernel_rfl) (fun _ _ _ h => h) (by rfl) hSd ?_
          try simp only [Act.put, List.setIfInBounds_toArray, List.set_cons_zero, List.set_cons_succ]
          refine hL_skip (i := 11) rfl (by kernel_rfl) (fun _ _ _ h => h) (by rfl) hSd ?_
          try simp only [Act.put, List.setIfInBounds_toArray, List.set_cons_zero, List.set_cons_succ]
          refine hL_skip (i := 12) rfl (by kernel_rfl) (fun _ _ _ h => h) (by rfl) hSd ?_
          try simp only [Act.put, List.setIfInBounds_toArray, List.set_cons_zero, List.set_cons_succ]
          refine hL_take (i := 13) (v := ?_) rfl (by kernel_rfl) (fun _ _ _ h => h) (by rfl) hSd ?_ ?_
          rotate_left 1
          · intro wS hSw
            obtain ⟨p0, p1, p2, p3, p4, p5, p6⟩ := hSw
            go_simp
            try with_reducible rfl
          try simp only [Act.put, List.setIfInBounds_toArray, List.set_cons_zero, List.set_cons_succ]
          have b0 : wd.cell? ⟨w.heap.size, 0, none⟩ = some (.int .i64 0) := (hzd).cell 0 rfl
          have b1 : wd.cell? ⟨w.heap.size, 1, none⟩ = some (.int .i64 0) := (hzd).cell 1 rfl
          have b2 : wd.cell? ⟨w.heap.size, 2, none⟩ = some (.int .i64 0) := (hzd).cell 2 rfl
          have b3 : wd.cell? ⟨w.heap.size, 3, none⟩ = some (.int .i64 0) := (hzd).cell 3 rfl
          have b4 : wd.cell? ⟨w.heap.size, 4, none⟩ = some (.int .i64 0) := (hzd).cell 4 rfl
          have b5 : wd.cell? ⟨w.heap.size, 5, none⟩ = some (.int .i64 0) := (hzd).cell 5 rfl
          have b6 : wd.cell? ⟨w.heap.size, 6, none⟩ = some (.int .i64 0) := (hzd).cell 6 rfl
          have f0 := (hzd).free 0
          have f1 := (hzd).free 1
          have f2 := (hzd).free 2
          have f3 := (hzd).free 3
          have f4 := (hzd).free 4
          have f5 := (hzd).free 5
          have f6 := (hzd).free 6
          refine hL_next (i := 14) rfl (by kernel_rfl) (fun K hK => ?_)
          go_simp
          have hk4 : Blk (((((((wd.setCell ⟨w.heap.size, 0, none⟩ (.int .i64 r0)).setCell ⟨w.heap.size, 1, none⟩ (.int .i64 x8)).setCell ⟨w.heap.size, 2, none⟩ (.int .i64 x9)).setCell ⟨w.heap.size, 3, none⟩ (.int .i64 r1)).setCell ⟨w.heap.size, 4, none⟩ (.int .i64 r2)).setCell ⟨w.heap.size, 5, none⟩ (.int .i64 r3)).setCell ⟨w.heap.size, 6, none⟩ (.int .i64 x30)) (w.heap.size + 1) #[.int .i64 r0, .int .i64 x8, .int .i64 x9, .int .i64 r1, .int .i64 r2, .int .i64 r3, .int .i64 x30] 56 := ((((((hkd.far 0 _ (by omega)).far 1 _ (by omega)).far 2 _ (by omega)).far 3 _ (by omega)).far 4 _ (by omega)).far 5 _ (by omega)).far 6 _ (by omega)
          have kz := set7 hzd (.int .i64 r0) (.int .i64 x8) (.int .i64 x9) (.int .i64 r1) (.int .i64 r2) (.int .i64 r3) (.int .i64 x30)
          have hBz := below_setCells (below_setCells (below_setCells (below_setCells (below_setCells (below_setCells (below_setCells HBd.out (Nat.le_refl w.heap.size) 0 (.int .i64 r0)) (Nat.le_refl w.heap.size) 1 (.int .i64 x8)) (Nat.le_refl w.heap.size) 2 (.int .i64 x9)) (Nat.le_refl w.heap.size) 3 (.int .i64 r1)) (Nat.le_refl w.heap.size) 4 (.int .i64 r2)) (Nat.le_refl w.heap.size) 5 (.int .i64 r3)) (Nat.le_refl w.heap.size) 6 (.int .i64 x30)
          have hSd4 := HS2.out _ hk4
          refine hK.out _ _ (hSd4) ?_
          clear hK K
          try simp only [Act.put, List.setIfInBounds_toArray, List.set_cons_zero, List.set_cons_succ]
          refine hL_take (i := 15) (v := ?_) rfl (by kernel_rfl) (fun _ _ _ h => h) (by rfl) hSd4 ?_ ?_
          rotate_left 1
          · intro wS hSw
            obtain ⟨p0, p1, p2, p3, p4, p5, p6⟩ := hSw
            go_simp
            try with_reducible rfl
          try simp only [Act.put, List.setIfInBounds_toArray, List.set_cons_zero, List.set_cons_succ]
          refine wpAnyH_done (by kernel_rfl) ?_ _
          have e0 := kz.cell 0 rfl
          have e1 := kz.cell 1 rfl
          have e2 := kz.cell 2 rfl
          have e3 := kz.cell 3 rfl
          have e4 := kz.cell 4 rfl
          have e5 := kz.cell 5 rfl
          have e6 := kz.cell 6 rfl
          go_wp2_with fail
          refine bodyPost_ret (v := .tuple #[.agg #[.int .i64 r0, .int .i64 x8, .int .i64 x9, .int .i64 r1, .int .i64 r2, .int .i64 r3, .int .i64 x30], .bool false]) (by simp [results, Try.results20, go_sem, e0, e1, e2, e3, e4, e5, e6]) rfl ⟨?_, hBz⟩
          rw [HRA.out, HD.out]
          rw [if_neg h1, d0]; simp

end Go.Proofs.Ytkloijkfaooodaa
