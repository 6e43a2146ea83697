/- Bytes, plainly: of a number, and back; of a version, and back; of a store, and back. No program. -/
import Derived.Test.YtkloijkfaooodaaBitCb
import Derived.Test.YtkloijkfaooodaaBitDb
namespace Go.Proofs.Ytkloijkfaooodaa
open Go.RowKit
set_option linter.unusedVariables false
set_option linter.unusedSimpArgs false

def valN (bs : List Int) : Int := bs.foldl (fun n x => n * 256 + x) 0
theorem valN_snoc (l : List Int) (x : Int) : valN (l ++ [x]) = valN l * 256 + x := by simp [valN]
theorem rdN_val {bs : List Int} (h : IsB bs) : rdN bs = wrap64 (valN bs) := by
  obtain ⟨n, hn⟩ : ∃ n, bs.length = n := ⟨_, rfl⟩
  induction n generalizing bs with
  | zero => obtain rfl := List.length_eq_zero_iff.1 hn; show (0 : Int) = wrap64 0; unfold wrap64; omega
  | succ n ih =>
    rcases List.eq_nil_or_concat bs with rfl | ⟨l, x, rfl⟩
    · simp at hn
    · rw [List.concat_eq_append] at h hn ⊢
      have hx := h x (by simp)
      have hl := ih (bs := l) (fun y hy => h y (by simp [hy])) (by simp at hn; exact hn)
      rw [valN_snoc]
      unfold rdN at hl ⊢
      rw [List.foldl_append, hl]
      show rdS _ x = _
      rw [rdS_eq _ _ hx.1 hx.2]
      unfold wrap64
      omega
def pw (k : Nat) : Int := 256 ^ k
theorem pw_succ (k : Nat) : pw (k + 1) = pw k * 256 := by unfold pw; rw [Int.pow_succ]
theorem pw_pos (k : Nat) : 0 < pw k := by
  induction k with
  | zero => decide
  | succ k ih => rw [pw_succ]; omega
theorem pw_two (k : Nat) : (2 : Int) ^ (8 * k) = pw k := by
  unfold pw
  rw [Int.pow_mul]
  rfl
theorem byS_pw (x : Int) (i : Nat) : byS x i = x / pw i % 256 := by unfold byS; rw [pw_two]
theorem byS_bd (x : Int) (i : Nat) : 0 ≤ byS x i ∧ byS x i ≤ 255 := by unfold byS; omega
theorem numB_is (x : Int) (k : Nat) : IsB (numB x k) := by
  induction k with
  | zero => intro y hy; cases hy
  | succ k ih =>
    intro y hy
    rcases List.mem_cons.1 hy with rfl | hy
    · exact byS_bd x k
    · exact ih y hy
theorem valN_cons (b : Int) (l : List Int) : valN (b :: l) = b * pw l.length + valN l := by
  obtain ⟨n, hn⟩ : ∃ n, l.length = n := ⟨_, rfl⟩
  induction n generalizing l with
  | zero => obtain rfl := List.length_eq_zero_iff.1 hn; simp [valN, pw]
  | succ n ih =>
    rcases List.eq_nil_or_concat l with rfl | ⟨l', x, rfl⟩
    · simp at hn
    · rw [List.concat_eq_append] at hn ⊢
      have h1 := ih l' (by simp at hn; exact hn)
      rw [← List.cons_append, valN_snoc, valN_snoc, h1, List.length_append, List.length_singleton, pw_succ]
      rw [Int.add_mul, Int.mul_assoc]
      omega
theorem emod_pw (x : Int) (k : Nat) : x % pw (k + 1) = (x / pw k % 256) * pw k + x % pw k := by
  have hp := pw_pos k
  obtain ⟨M, hM⟩ : ∃ M, pw k = M := ⟨_, rfl⟩
  rw [pw_succ, hM]
  rw [hM] at hp
  have h1 := Int.mul_ediv_add_emod x M
  have h2 := Int.emod_nonneg x (show M ≠ 0 by omega)
  have h3 := Int.emod_lt_of_pos x hp
  obtain ⟨q, hq⟩ : ∃ q, x / M = q := ⟨_, rfl⟩
  obtain ⟨r, hr⟩ : ∃ r, x % M = r := ⟨_, rfl⟩
  rw [hq, hr] at h1
  rw [hr] at h2 h3
  rw [hq, hr]
  have h4 := Int.mul_ediv_add_emod q 256
  obtain ⟨b, hb⟩ : ∃ b, q % 256 = b := ⟨_, rfl⟩
  obtain ⟨q', hq'⟩ : ∃ q', q / 256 = q' := ⟨_, rfl⟩
  have hb0 : 0 ≤ b ∧ b ≤ 255 := by omega
  rw [hb, hq'] at h4
  rw [hb]
  have hx : x = (b * M + r) + M * 256 * q' := by
    rw [← h1, ← h4, Int.mul_add, Int.mul_comm M b, ← Int.mul_assoc]
    omega
  rw [hx, Int.add_mul_emod_self_left]
  refine Int.emod_eq_of_lt ?_ ?_
  · have := Int.mul_nonneg hb0.1 (Int.le_of_lt hp)
    omega
  · have : b * M ≤ 255 * M := Int.mul_le_mul_of_nonneg_right hb0.2 (Int.le_of_lt hp)
    omega
theorem valN_num (x : Int) (k : Nat) : valN (numB x k) = x % pw k := by
  induction k with
  | zero => show (0 : Int) = x % 1; omega
  | succ k ih =>
    show valN (byS x k :: numB x k) = _
    rw [valN_cons, numB_len, ih, byS_pw, emod_pw]
theorem pw8 : pw 8 = 18446744073709551616 := by decide
theorem pw4 : pw 4 = 4294967296 := by decide
theorem pw1 : pw 1 = 256 := by decide
theorem rd8 (x : Int) (h : I64 x) : rdN (numB x 8) = x := by
  rw [rdN_val (numB_is x 8), valN_num, pw8]
  unfold I64 at h
  unfold wrap64
  omega
theorem rd4 (x : Int) (h0 : 0 ≤ x) (h1 : x < 4294967296) : rdN (numB x 4) = x := by
  rw [rdN_val (numB_is x 4), valN_num, pw4]
  unfold wrap64
  omega
theorem by1 (x : Int) (h0 : 0 ≤ x) (h1 : x ≤ 255) : numB x 1 = [x] := by
  show [byS x 0] = [x]
  unfold byS
  simp
  omega
theorem valN_bd {bs : List Int} (h : IsB bs) : 0 ≤ valN bs ∧ valN bs < pw bs.length := by
  induction bs with
  | nil => exact ⟨Int.le_refl _, by decide⟩
  | cons b l ih =>
    have hb := h b (by simp)
    have hl := ih (fun y hy => h y (List.mem_cons_of_mem _ hy))
    rw [valN_cons, List.length_cons, pw_succ]
    have hp := pw_pos l.length
    have h1 := Int.mul_nonneg hb.1 (Int.le_of_lt hp)
    have h2 : b * pw l.length ≤ 255 * pw l.length := Int.mul_le_mul_of_nonneg_right hb.2 (Int.le_of_lt hp)
    omega
theorem byS_high (x m : Int) (i k : Nat) (h : i < k) : byS (x + pw k * m) i = byS x i := by
  rw [byS_pw, byS_pw]
  obtain ⟨j, rfl⟩ : ∃ j, k = i + 1 + j := ⟨k - (i + 1), by omega⟩
  have e : pw (i + 1 + j) = pw i * (256 * pw j) := by
    unfold pw
    rw [Int.pow_add, Int.pow_add, Int.mul_assoc]
    rfl
  rw [e, Int.mul_assoc, Int.add_mul_ediv_left _ _ (by have := pw_pos i; omega), Int.mul_assoc, Int.add_mul_emod_self_left]
theorem numB_high (x m : Int) (k n : Nat) (h : n ≤ k) : numB (x + pw k * m) n = numB x n := by
  induction n with
  | zero => rfl
  | succ n ih =>
    show byS _ n :: numB _ n = _
    rw [byS_high x m n k (by omega), ih (by omega)]
    rfl
theorem numB_val {bs : List Int} (h : IsB bs) : numB (valN bs) bs.length = bs := by
  induction bs with
  | nil => rfl
  | cons b l ih =>
    have hb := h b (by simp)
    have hl : IsB l := fun y hy => h y (List.mem_cons_of_mem _ hy)
    have h1 := valN_bd hl
    rw [valN_cons, List.length_cons]
    show byS _ l.length :: numB _ l.length = _
    have e : b * pw l.length + valN l = valN l + pw l.length * b := by rw [Int.mul_comm]; omega
    rw [e, numB_high _ _ _ _ (Nat.le_refl _), ih hl, byS_pw, Int.add_mul_ediv_left _ _ (by have := pw_pos l.length; omega), Int.ediv_eq_zero_of_lt h1.1 h1.2]
    congr 1
    omega
theorem num_rd8 {bs : List Int} (h : IsB bs) (hl : bs.length = 8) : numB (rdN bs) 8 = bs := by
  have h1 := numB_val h
  rw [hl] at h1
  rw [rdN_val h]
  have e : wrap64 (valN bs) = valN bs + pw 8 * (-((valN bs + 9223372036854775808) / 18446744073709551616)) := by
    rw [pw8]
    unfold wrap64
    omega
  rw [e, numB_high _ _ _ _ (Nat.le_refl _)]
  exact h1
theorem num_rd4 {bs : List Int} (h : IsB bs) (hl : bs.length = 4) : numB (rdN bs) 4 = bs := by
  have h1 := numB_val h
  have h2 := valN_bd h
  rw [hl] at h1 h2
  rw [pw4] at h2
  rw [rdN_val h]
  have e : wrap64 (valN bs) = valN bs := by unfold wrap64; omega
  rw [e]
  exact h1

/-- What a version in a store is. -/
structure OkV (v : Vs) : Prop where
  f : factE v = 0
  nm : v.norm = v
  s : I64 v.s
  n : I64 v.n
  m : I64 v.m
theorem norm_norm (v : Vs) : v.norm.norm = v.norm := by unfold Vs.norm; cases h : v.c <;> simp
theorem fact_norm (v : Vs) : factE v.norm = factE v := by unfold Vs.norm factE; cases h : v.c <;> simp [h]
theorem may_zero {k d : Int} {r : Bool} (h : mayV k d r = 0) : (0 ≤ k ∧ k ≤ 63) ∧ (0 ≤ d ∧ d ≤ 73048) ∧ r = true := by
  unfold mayV at h
  by_cases h1 : k < 0 ∨ 63 < k ∨ r = false
  · rw [if_pos h1] at h
    exact absurd h (by decide)
  · rw [if_neg h1] at h
    by_cases h2 : d < 0 ∨ 73048 < d
    · rw [if_pos h2] at h
      exact absurd h (by decide)
    · have h3 : r ≠ false := fun e => h1 (Or.inr (Or.inr e))
      exact ⟨by omega, by omega, by simpa using h3⟩
theorem fact_bd {v : Vs} (h : factE v = 0) : (0 ≤ v.k ∧ v.k ≤ 63) ∧ (0 ≤ v.d ∧ v.d ≤ 73048) ∧ (v.c = true → v.p = 1 ∨ v.p = 2) := by
  unfold factE at h
  cases hc : v.c
  · rw [hc, if_neg (by decide)] at h
    unfold wrongX at h
    by_cases h1 : mayV v.k v.d true = 0
    · have := may_zero h1
      exact ⟨this.1, this.2.1, fun h => by cases h⟩
    · rw [if_neg h1] at h
      exact absurd h h1
  · rw [hc, if_pos rfl] at h
    unfold wrongH at h
    have := may_zero h
    exact ⟨this.1, this.2.1, fun _ => by simpa using this.2.2⟩
theorem OkV.shape {v : Vs} (h : OkV v) : (v.c = true → v.n = 0 ∧ v.m = 0) ∧ (v.c = false → v.p = 0) := by
  have := h.nm
  unfold Vs.norm at this
  constructor
  · intro hc
    rw [if_pos hc] at this
    rw [← this]
    exact ⟨rfl, rfl⟩
  · intro hc
    rw [if_neg (by rw [hc]; decide)] at this
    rw [← this]
theorem OkV.p_bd {v : Vs} (h : OkV v) : 0 ≤ v.p ∧ v.p ≤ 255 := by
  cases hc : v.c
  · rw [h.shape.2 hc]; decide
  · rcases (fact_bd h.f).2.2 hc with e | e <;> rw [e] <;> decide
theorem bytesV_split (v : Vs) : bytesV v = numB v.s 8 ++ (numB (kindV v.c) 1 ++ (numB v.k 1 ++ (numB v.d 4 ++ (numB v.n 8 ++ (numB v.m 8 ++ numB v.p 1))))) := by
  simp [bytesV, numsL, pairsV]
theorem dec_bytes {v : Vs} (h : OkV v) : decV (bytesV v) = v ∧ decB (bytesV v) = true := by
  have hk := (fact_bd h.f).1
  have hd := (fact_bd h.f).2.1
  have hp := h.p_bd
  have hkd : 0 ≤ kindV v.c ∧ kindV v.c ≤ 255 := by unfold kindV; split <;> decide
  have e0 : rdN (((bytesV v).drop 0).take 8) = v.s := rd8 v.s h.s
  have e8 : (bytesV v).getD 8 0 = kindV v.c := by
    show (numB (kindV v.c) 1).getD 0 0 = _
    rw [by1 _ hkd.1 hkd.2]
    rfl
  have e9 : (bytesV v).getD 9 0 = v.k := by
    show (numB v.k 1).getD 0 0 = _
    rw [by1 _ hk.1 (by omega)]
    rfl
  have e10 : rdN (((bytesV v).drop 10).take 4) = v.d := rd4 v.d hd.1 (by omega)
  have e14 : rdN (((bytesV v).drop 14).take 8) = v.n := rd8 v.n h.n
  have e22 : rdN (((bytesV v).drop 22).take 8) = v.m := rd8 v.m h.m
  have e30 : (bytesV v).getD 30 0 = v.p := by
    show (numB v.p 1).getD 0 0 = _
    rw [by1 _ hp.1 hp.2]
    rfl
  have hkc : (kindV v.c == 1) = v.c := by cases v.c <;> rfl
  constructor
  · unfold decV
    rw [e0, e8, e9, e10, e14, e22, e30, hkc]
  · unfold decB
    rw [e8, e14, e22, e30]
    cases hc : v.c
    · rw [if_neg (by decide), (h.shape.2 hc)]
      rfl
    · rw [if_pos (show kindV true = 1 from rfl), (h.shape.1 hc).1, (h.shape.1 hc).2]
      decide
/-- A version's bytes, again. -/
theorem bytes_dec {c : List Int} (hl : c.length = 31) (hB : IsB c) (hd : decB c = true) : bytesV (decV c) = c := by
  have hk : kindV (decV c).c = c.getD 8 0 := by
    unfold decB at hd
    unfold decV
    dsimp only
    by_cases h1 : c.getD 8 0 = 1
    · rw [h1]; rfl
    · rw [if_neg h1] at hd
      simp only [Bool.and_eq_true, beq_iff_eq] at hd
      rw [hd.1]
      rfl
  have b8 := hB.getD 8
  have b9 := hB.getD 9
  have b30 := hB.getD 30
  have one : ∀ i, i < 31 → (c.drop i).take 1 = [c.getD i 0] := fun i hi => by
    rw [List.drop_eq_getElem_cons (by omega), List.getD_eq_getElem?_getD, List.getElem?_eq_getElem (by omega)]
    rfl
  have s0 : numB (decV c).s 8 = (c.drop 0).take 8 := num_rd8 (hB.part 0 8) (by simp; omega)
  have s1 : numB (kindV (decV c).c) 1 = (c.drop 8).take 1 := by rw [hk, by1 _ b8.1 b8.2, one 8 (by omega)]
  have s2 : numB (decV c).k 1 = (c.drop 9).take 1 := by
    show numB (c.getD 9 0) 1 = _
    rw [by1 _ b9.1 b9.2, one 9 (by omega)]
  have s3 : numB (decV c).d 4 = (c.drop 10).take 4 := num_rd4 (hB.part 10 4) (by simp; omega)
  have s4 : numB (decV c).n 8 = (c.drop 14).take 8 := num_rd8 (hB.part 14 8) (by simp; omega)
  have s5 : numB (decV c).m 8 = (c.drop 22).take 8 := num_rd8 (hB.part 22 8) (by simp; omega)
  have s6 : numB (decV c).p 1 = (c.drop 30).take 1 := by
    show numB (c.getD 30 0) 1 = _
    rw [by1 _ b30.1 b30.2, one 30 (by omega)]
  rw [bytesV_split, s0, s1, s2, s3, s4, s5, s6]
  have glue : ∀ i n, i + n ≤ 31 → (c.drop i).take n ++ c.drop (i + n) = c.drop i := fun i n h => by
    have := List.take_append_drop n (c.drop i)
    rwa [List.drop_drop] at this
  have g6 : (c.drop 30).take 1 = c.drop 30 := List.take_of_length_le (by simp; omega)
  rw [g6, glue 22 8 (by omega), glue 14 8 (by omega), glue 10 4 (by omega), glue 9 1 (by omega), glue 8 1 (by omega), glue 0 8 (by omega)]
  rfl

theorem call_zero' {V : List Vs} {v : Vs} (h : callE V v = 0) : factE v = 0 ∧ putE V v.norm = 0 := by
  unfold callE at h
  by_cases hf : factE v = 0
  · rw [if_pos hf] at h
    exact ⟨hf, h⟩
  · rw [if_neg hf] at h
    exact absurd h hf
theorem dec_norm' {bs : List Int} (h : decB bs = true) : (decV bs).norm = decV bs := by
  unfold decB at h
  by_cases h1 : bs.getD 8 0 = 1
  · rw [if_pos h1] at h
    simp only [decide_eq_true_eq] at h
    unfold Vs.norm decV
    dsimp only
    rw [h1, if_pos (by decide), h.1, h.2]
    rfl
  · rw [if_neg h1] at h
    simp only [Bool.and_eq_true, beq_iff_eq] at h
    have e : (bs.getD 8 0 == 1) = false := by simpa using h1
    unfold Vs.norm decV
    dsimp only
    rw [e, if_neg (by decide), h.2]
/-- What a store is, version by version: each one was accepted. -/
inductive Acc : List Vs → Prop
  | nil : Acc []
  | snoc {V : List Vs} {v : Vs} : Acc V → OkV v → callE V v = 0 → Acc (V ++ [v])
theorem call_norm (V : List Vs) (v : Vs) : callE V v.norm = callE V v := by
  unfold callE
  rw [fact_norm, norm_norm]
theorem Acc.call {V : List Vs} (h : Acc V) {v : Vs} (hs : I64 v.s) (hn : I64 v.n) (hm : I64 v.m) : Acc (callV V v) := by
  by_cases hE : callE V v = 0
  · obtain ⟨hf, hp⟩ := call_zero' hE
    have e : callV V v = V ++ [v.norm] := by
      unfold callV putV
      rw [if_pos hf, if_pos hp]
    rw [e]
    refine h.snoc ⟨by rw [fact_norm]; exact hf, norm_norm v, ?_, ?_, ?_⟩ (by rw [call_norm]; exact hE)
    · rw [norm_s]; exact hs
    · unfold Vs.norm; split; exact (show I64 0 from ⟨by decide, by decide⟩); exact hn
    · unfold Vs.norm; split; exact (show I64 0 from ⟨by decide, by decide⟩); exact hm
  · have e : callV V v = V := by
      unfold callE at hE
      unfold callV
      by_cases hf : factE v = 0
      · rw [if_pos hf] at hE ⊢
        unfold putV
        rw [if_neg hE]
      · rw [if_neg hf]
    rw [e]
    exact h
theorem Acc.run {V : List Vs} (h : Acc V) {l : List Vs} (hl : ∀ v ∈ l, I64 v.s ∧ I64 v.n ∧ I64 v.m) : Acc (runV V l) := by
  induction l generalizing V with
  | nil => exact h
  | cons v l ih => exact ih (h.call (hl v (by simp)).1 (hl v (by simp)).2.1 (hl v (by simp)).2.2) (fun u hu => hl u (List.mem_cons_of_mem _ hu))
theorem accV {V : List Vs} {v : Vs} (hv : OkV v) (hE : callE V v = 0) : callV V v = V ++ [v] := by
  obtain ⟨hf, hp⟩ := call_zero' hE
  unfold callV putV
  rw [if_pos hf, if_pos hp, hv.nm]
theorem chB_app {a b : List Int} {k : Nat} (h : 31 * k + 31 ≤ a.length) : chB (a ++ b) k = chB a k := by
  unfold chB
  rw [List.drop_append_of_le_length (by omega), List.take_append_of_le_length (by simp; omega)]
theorem VKd_app {a b : List Int} {k : Nat} (h : 31 * k ≤ a.length) : VKd (a ++ b) k = VKd a k := by
  induction k with
  | zero => rfl
  | succ k ih => rw [VKd_succ, VKd_succ, ih (by omega), chB_app (by omega)]
theorem erK_app {a b : List Int} {k : Nat} (h : 31 * k + 31 ≤ a.length) : erK (a ++ b) k = erK a k := by
  unfold erK
  rw [chB_app h, VKd_app (by omega)]
/-- Bytes of a store are taken whole, and are the store. -/
theorem enc_dec {V : List Vs} (h : Acc V) : VKd (encL V) V.length = V ∧ ∀ i, i < V.length → erK (encL V) i = 0 := by
  induction h with
  | nil => exact ⟨rfl, fun i hi => absurd hi (by simp)⟩
  | @snoc V v h hv hE ih =>
    have hl := encL_len V
    have hc : chB (encL V ++ bytesV v) V.length = bytesV v := by
      unfold chB
      rw [List.drop_append_of_le_length (by omega), List.drop_of_length_le (by omega), List.nil_append, List.take_of_length_le (by rw [bytesV_len]; omega)]
    have hd := dec_bytes hv
    have hV : VKd (encL V ++ bytesV v) V.length = V := by rw [VKd_app (by omega), ih.1]
    rw [encL_snoc, List.length_append, List.length_singleton]
    constructor
    · rw [VKd_succ, hc, hd.1, hV, accV hv hE]
    · intro i hi
      by_cases e : i = V.length
      · subst e
        unfold erK
        rw [hc, if_pos hd.2, hd.1, hV, hE]
      · rw [erK_app (by omega)]
        exact ih.2 i (by omega)
/-- Bytes that are a store are the store's bytes. -/
theorem dec_enc {bs : List Int} {m : Nat} (hl : bs.length = 31 * m) (hB : IsB bs) (hg : ∀ i, i < m → erK bs i = 0) (k : Nat) (hk : k ≤ m) : encL (VKd bs k) = bs.take (31 * k) ∧ (VKd bs k).length = k := by
  induction k with
  | zero => exact ⟨by simp [VKd, runV, encL], rfl⟩
  | succ k ih =>
    obtain ⟨h1, h2⟩ := ih (by omega)
    have he := hg k (by omega)
    unfold erK at he
    by_cases hd : decB (chB bs k) = true
    · rw [if_pos hd] at he
      obtain ⟨hf, hp⟩ := call_zero' he
      have e : VKd bs (k + 1) = VKd bs k ++ [decV (chB bs k)] := by
        rw [VKd_succ]
        unfold callV putV
        rw [if_pos hf, if_pos hp, dec_norm' hd]
      have hcl := chB_len bs m k hl (by omega)
      rw [e, encL_snoc, bytes_dec hcl (hB.part _ _) hd, h1, List.length_append, h2]
      refine ⟨?_, rfl⟩
      unfold chB
      rw [show 31 * (k + 1) = 31 * k + 31 by omega, List.take_add]
    · rw [if_neg hd] at he
      exact absurd he (by decide)

end Go.Proofs.Ytkloijkfaooodaa
