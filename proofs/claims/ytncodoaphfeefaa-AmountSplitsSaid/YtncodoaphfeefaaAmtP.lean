/- slices.symMergeCmpFunc of cuts: one value on the left. -/
import Derived.Test.YtncodoaphfeefaaAmtO
import Derived.Shelf.SlSortCmp.QuietGrown
import Derived.Laws.Bits64
namespace Go.Proofs.Ytncodoaphfeefaa
open Go.RowKit Go.Shelf Go.Lib Go.Sort
set_option linter.unusedVariables false
set_option linter.unusedSimpArgs false

def MrgEnd (k : Nat) (w0 : World) (blk off : Nat) (d : Array Cut) (a b : Nat) (e : Ending) (w' : World) : Prop := e = .returned (.tuple #[]) ∧ ∃ d', Mrg a b d d' ∧ SWK encC k w0 blk off d' w'
theorem u64_id (n : Nat) (h : n ≤ 2000) : IntKind.u64.wrap (n : Int) = (n : Int) := by
  rw [IntKind.wrap_u64]
  omega
theorem half_in {i j h ij : Nat} (h1 : i < j) (h2 : i + j = ij) (h3 : ij / 2 = h) : i ≤ h ∧ h < j := by omega
theorem half_eq (n h : Nat) (h2 : n / 2 = h) : (n : Int) / 2 = (h : Int) := by omega
theorem half_id (n h : Nat) (h1 : n ≤ 2000) (h2 : n / 2 = h) : RowKit.wrap64 ((n : Int) / 2) = (h : Int) := by
  have e : (n : Int) / 2 = (h : Int) := by omega
  rw [e]
  exact w64 h (by omega)
theorem left_done {a m b i : Nat} {d : Array Cut} (ham : a + 1 = m) (hb : b ≤ d.size) (h2 : Two a m b d) (h1 : m ≤ i) (hib : i ≤ b) (hlo : m < i → (d[a]!).2 < (d[i - 1]!).2) (hhi : i < b → (d[i]!).2 ≤ (d[a]!).2) : Mrg a b d (shl d a (i - 1 - a)) := by
  subst ham
  refine left_one hb h2 h1 hib (fun h => .inl (hlo h)) (fun h => ?_)
  have := hhi h
  have := h2.lr a i (Nat.le_refl _) (by omega) h1 h
  unfold lxC
  omega
set_option maxHeartbeats 8000000 in
set_option maxRecDepth 1000000 in
theorem symm_left (k : Nat) (hk2 : k = 2) (blk off cap a m b : Nat) (d0 d : Array Cut) (w0 w : World) (R : RowK encC k w0 blk off d0) (hs : d.size = d0.size) (S : SWK encC k w0 blk off d w) (hC : CmpLays Try.prog 36 #[] encC k cmpC blk off d.size w0) (ham : a + 1 = m) (hmb : m < b) (hb : b ≤ d.size) (hsz : d.size ≤ 1000) (h2 : Two a m b d) :
    Calls Try.prog 47 #[.slice (some ⟨blk, off, none⟩) d.size cap, .int .i64 a, .int .i64 m, .int .i64 b, .func (.func 36) #[] #[]] w (MrgEnd k w0 blk off d a b) := by
  have S0 : Aside (SWK encC k w0 blk off d w) := S
  have HC : Aside _ := hC
  have H2 := Lib.hid h2
  have HSz := Lib.hid hs
  clear S hC h2 hs
  have s1 : IntKind.i64.wrap ((m : Int) - (a : Int)) = 1 := by rw [IntKind.wrap_i64]; omega
  have aE : ∀ w, (isAgg 63).run Try.prog w = .ok true w := fun w => by kernel_rfl
  have zE : ∀ w, (Go.sizeOf 63).run Try.prog w = .ok k w := fun w => by rw [hk2]; kernel_rfl
  have tS : Try.prog.underlying 61 = some (TypeDesc.slice 63) := by kernel_rfl
  have mixed : Try.prog.follows Departure.mixedOrders = true := by kernel_rfl
  have eg : ∀ args w, (callFunc 36 args).run Try.prog w = .ok (.enter 36 args) w := fun args w => by kernel_rfl
  obtain ⟨T, hT⟩ : ∃ T : Nat, T = 63 := ⟨_, rfl⟩
  obtain ⟨TS, hTS⟩ : ∃ T : Nat, T = 61 := ⟨_, rfl⟩
  have r1 : ∀ s, Op.load 63 s = Op.load T s := fun s => by rw [hT]
  have r2 : ∀ s t, Op.store 63 s t = Op.store T s t := fun s t => by rw [hT]
  have r3 : ∀ s t, Op.indexAddr 61 s t = Op.indexAddr TS s t := fun s t => by rw [hTS]
  rw [← hT] at aE zE tS
  rw [← hTS] at tS
  clear hk2
  go_enter Try.func47, Try.ntmps47
  simp only [r1, r2, r3]
  clear r1 r2 r3 hT hTS
  go_wp2_with fail
  go_loopw [10, 11, 12] (fun vi vj _ wr => ∃ i j : Nat, vi = .int .i64 i ∧ vj = .int .i64 j ∧ m ≤ i ∧ i ≤ j ∧ j ≤ b ∧ Aside (SWK encC k w0 blk off d wr) ∧ Hid ((m < i → (d[a]!).2 < (d[i - 1]!).2) ∧ (j < b → (d[j]!).2 ≤ (d[a]!).2))) (fun vi vj _ _ => (intOf vj).toNat - (intOf vi).toNat)
  case atStart => exact ⟨m, b, rfl, rfl, by omega, by omega, by omega, S0, ⟨fun h => by omega, fun h => by omega⟩⟩
  case round =>
    clear S0
    obtain ⟨i, j, rfl, rfl, hmi, hij, hjb, S1, HB⟩ := hrel
    by_cases hlt : i < j
    · have hltz : (i : Int) < (j : Int) := by omega
      have s2 : IntKind.i64.wrap ((i : Int) + (j : Int)) = ((i + j : Nat) : Int) := by rw [IntKind.wrap_i64]; omega
      obtain ⟨ij, hij2⟩ : ∃ x, i + j = x := ⟨_, rfl⟩
      rw [hij2] at s2
      have HIj := Lib.hid hij2
      have s3 : IntKind.u64.wrap (ij : Int) = (ij : Int) := u64_id ij (by have := HIj.out; omega)
      obtain ⟨h, hh⟩ : ∃ x, ij / 2 = x := ⟨_, rfl⟩
      have hlj : ij ≤ 2000 := by rw [← HIj.out]; omega
      have s4 := half_id ij h hlj hh
      have s6 := half_eq ij h hh
      obtain ⟨hh1, hh2⟩ := half_in hlt HIj.out hh
      clear hij2 hh
      have ea24 : ((h : Nat) : Int).toNat = h := by omega
      have pa24 : (0 : Int) ≤ ((h : Nat) : Int) := by omega
      have ba24 : ((h : Nat) : Int) < (d.size : Int) := by omega
      have ra24 : IntKind.i64.wrap ((h : Nat) : Int) = ((h : Nat) : Int) := by rw [IntKind.wrap_i64]; omega
      have rc24 : IntKind.i64.wrap ((a : Nat) : Int) = ((a : Nat) : Int) := by rw [IntKind.wrap_i64]; omega
      have ec24 : ((a : Nat) : Int).toNat = a := by omega
      have pc24 : (0 : Int) ≤ ((a : Nat) : Int) := by omega
      have bc24 : ((a : Nat) : Int) < (d.size : Int) := by omega
      obtain ⟨x24, hx24⟩ : ∃ x, x = d[h]! := ⟨_, rfl⟩
      obtain ⟨y24, hy24⟩ : ∃ x, x = d[a]! := ⟨_, rfl⟩
      have l24a := S1.out.ld R HSz.out Try.prog h (by omega)
      have l24b := S1.out.ld R HSz.out Try.prog a (by omega)
      rw [← hx24] at l24a
      rw [← hy24] at l24b
      have hc24 := S1.out.cmp HC.out rfl x24 y24
      by_cases hv : (d[a]!).2 < (d[h]!).2
      · have hv24 : cmpC x24 y24 < 0 := by rw [hx24, hy24]; unfold cmpC; rw [if_pos hv]; decide
        have hd24 : decide (cmpC x24 y24 < 0) = true := decide_eq_true hv24
        have s5 : IntKind.i64.wrap ((h : Int) + 1) = ((h + 1 : Nat) : Int) := by rw [IntKind.wrap_i64]; omega
        have HV := Lib.hid hv
        clear hv
        clear hx24 hy24
        go_wp2_with fail
        go_quiet_grown (first | (go_at_fn 36; refine Calls.grown_of (hc24 _ _)))
        have S2 : Aside (SWK encC k w0 blk off d (grow (wr.drewN nq) osq)) := S1.out.grown nq osq
        clear l24a l24b hc24 S1
        generalize grow (wr.drewN nq) osq = w2 at S2 ⊢
        clear nq osq
        go_wp2_with fail
        go_roundw
        case rel => exact ⟨h + 1, j, by go_num, rfl, by omega, by omega, hjb, S2, fun _ => HV.out, HB.out.2⟩
        case measure => simp [intOf]; omega
      · have hv24 : ¬ cmpC x24 y24 < 0 := by rw [hx24, hy24]; unfold cmpC; rw [if_neg hv]; split <;> decide
        have hd24 : decide (cmpC x24 y24 < 0) = false := decide_eq_false hv24
        have HV := Lib.hid hv
        clear hv
        clear hx24 hy24
        go_wp2_with fail
        go_quiet_grown (first | (go_at_fn 36; refine Calls.grown_of (hc24 _ _)))
        have S2 : Aside (SWK encC k w0 blk off d (grow (wr.drewN nq) osq)) := S1.out.grown nq osq
        clear l24a l24b hc24 S1
        generalize grow (wr.drewN nq) osq = w2 at S2 ⊢
        clear nq osq
        go_wp2_with fail
        go_roundw
        case rel => exact ⟨i, h, rfl, rfl, hmi, hh1, by omega, S2, HB.out.1, fun _ => by have := HV.out; omega⟩
        case measure => simp [intOf]; omega
    · obtain rfl : i = j := by omega
      have hei : IntKind.i64.wrap ((i : Int) - 1) = ((i - 1 : Nat) : Int) := by rw [IntKind.wrap_i64]; omega
      have HFin : Hid (∀ w', SWK encC k w0 blk off (shl d a (i - 1 - a)) w' → MrgEnd k w0 blk off d a b (.returned (.tuple #[])) w') := fun w' hS' => ⟨rfl, _, left_done ham hb H2.out (by omega) hjb HB.out.1 HB.out.2, hS'⟩
      obtain ⟨e, he⟩ : ∃ x, i - 1 = x := ⟨_, rfl⟩
      rw [he] at hei HFin
      have hle : a ≤ e := by omega
      have hle2 : e < d.size := by omega
      clear he HB
      go_wp2_with fail
      go_loopw [13] (fun vk wr => ∃ q : Nat, vk = .int .i64 ((a + q : Nat) : Int) ∧ a + q ≤ e ∧ Aside (SWK encC k w0 blk off (shl d a q) wr)) (fun vk _ => e - (intOf vk).toNat)
      case atStart => exact ⟨0, rfl, by omega, S1⟩
      case round =>
        clear S1
        obtain ⟨q, rfl, hqe, S3⟩ := hrel
        have hz := shl_size d a q
        have hnext : shl d a (q + 1) = swp (shl d a q) (a + q) (a + q + 1) := rfl
        obtain ⟨x, hx⟩ : ∃ x, a + q = x := ⟨_, rfl⟩
        rw [hx] at hqe hnext ⊢
        by_cases hlt : x < e
        · have hkn : (x : Int) < (e : Int) := by omega
          obtain ⟨dk, hdk⟩ : ∃ x, shl d a q = x := ⟨_, rfl⟩
          rw [hdk] at S3 hz hnext
          have HN := Lib.hid hnext
          clear hdk hnext
          obtain ⟨y, hy⟩ : ∃ y, x + 1 = y := ⟨_, rfl⟩
          rw [hy] at HN
          have wj' : IntKind.i64.wrap ((x : Int) + 1) = (y : Int) := by rw [IntKind.wrap_i64]; omega
          have ba44 : (x : Int) < (d.size : Int) := by omega
          have bc44 : (y : Int) < (d.size : Int) := by omega
          have S2 : Aside (SWK encC k w0 blk off (swp dk x y) ((wr.drew.setCells blk (off + x * k) (encC dk[y]!)).setCells blk (off + y * k) (encC dk[x]!))) := S3.out.swapped R x y (by omega) (by omega)
          have l44a := S3.out.ld1 R (hz.trans HSz.out) Try.prog x (by omega)
          have l44b := S3.out.ld1 R (hz.trans HSz.out) Try.prog y (by omega)
          have s44a := S3.out.st1 R (hz.trans HSz.out) Try.prog x (by omega) dk[y]!
          have s44b := S3.out.st2 R (hz.trans HSz.out) Try.prog x y (by omega) (by omega) dk[y]! dk[x]!
          have n44a : (encC dk[x]!).length = k := R.hk _
          have n44b : (encC dk[y]!).length = k := R.hk _
          generalize encC dk[x]! = cI44 at S2 l44a s44b n44a
          generalize encC dk[y]! = cJ44 at S2 l44b s44a s44b n44b
          have ei : ((x : Int)).toNat = x := by rfl
          have pi : (0 : Int) ≤ (x : Int) := Int.natCast_nonneg x
          have ej : ((y : Int)).toNat = y := by rfl
          have pj : (0 : Int) ≤ (y : Int) := Int.natCast_nonneg y
          have HI := Lib.hid hx
          have HJ := Lib.hid hy
          have HLT := Lib.hid hlt
          have HZ := Lib.hid hz
          clear S3 hx hy hlt hz
          go_wp2_with fail
          go_big_region_o
          clear l44a l44b s44a s44b
          generalize (wr.drew.setCells blk (off + x * k) cJ44).setCells blk (off + y * k) cI44 = w2 at S2 ⊢
          have hlt := HLT.out
          go_wp2
          go_roundw
          case rel => exact ⟨q + 1, by have := HI.out; have := HJ.out; go_num, by have := HI.out; omega, by rw [HN.out]; exact S2⟩
          case measure => have := HI.out; have := HJ.out; simp [intOf]; omega
        · obtain rfl : e = x := by omega
          obtain rfl : q = e - a := by omega
          have HS3 := Lib.hid S3.out
          clear S3 hx hz hnext
          go_wp2_with fail
          go_end0
          exact HFin.out _ HS3.out

end Go.Proofs.Ytncodoaphfeefaa
