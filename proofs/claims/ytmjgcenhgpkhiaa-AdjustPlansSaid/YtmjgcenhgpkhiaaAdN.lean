/- Package adjust: a plan's change fits. -/
import Derived.Test.YtmjgcenhgpkhiaaAdK
namespace Go.Proofs.Ytmjgcenhgpkhiaa
open Go.RowKit Go.Sort Go.Shelf
set_option linter.unusedVariables false
set_option linter.unusedSimpArgs false

def entL (x : Lv) : Value × Value := (plV x.ky, .agg (encL x).toArray)
theorem entL_keys (L : List Lv) : (L.map entL).map (·.1) = (L.map Lv.ky).map plV := by rw [List.map_map, List.map_map]; rfl
/-- A change of what is there. -/
def FitC (l : List Lv) (c : Cg) : Prop := (c.no = -1 ∧ c.o = 0 ∧ ∀ x ∈ l, x.ky ≠ c.ky) ∨ (0 ≤ c.no ∧ (⟨c.no, c.d, c.c, c.o⟩ : Lv) ∈ l)
theorem plan_fits {l : List Lv} {w : List Fl} {p : List Cg} (hk : ckE l = 0) (h : IsPlan l w p) : ∀ c ∈ p, FitC l c := fun c hc => by
  obtain ⟨hA, hne⟩ := (h.mem c).1 hc
  obtain ⟨h1, _⟩ := ckE_ok hk
  rcases hA with ⟨x, hx, rfl⟩ | ⟨y, hy, hno, rfl⟩
  · exact .inr ⟨h1 x hx, hx⟩
  · exact .inl ⟨rfl, rfl, fun x hx => hno x hx⟩
theorem lv_self (n d c o : Int) (W : World) : (binOp .neq 42 (.agg #[.int .i64 n, .int .i64 d, .int .i64 c, .int .i64 o]) (.agg #[.int .i64 n, .int .i64 d, .int .i64 c, .int .i64 o])).run Try.prog W = .ok (.bool false) W := by
  have h := eq_struct W Try.underlying42 (by kernel_rfl) (by kernel_rfl) [n, d, c, o] [n, d, c, o] rfl rfl
  rw [decide_eq_true rfl] at h
  have h' : (Op.equalIn 10000 42 (.agg #[.int .i64 n, .int .i64 d, .int .i64 c, .int .i64 o]) (.agg #[.int .i64 n, .int .i64 d, .int .i64 c, .int .i64 o])).run Try.prog W = .ok true W := h
  rw [run_neq_struct, h']
  rfl
theorem fitp_ok (x : Lv) (B : Nat) (n d' c' o' w' : Int) (W : World) (hB : Blk W B #[.int .i64 n, .int .i64 d', .int .i64 c', .int .i64 o', .int .i64 w'] 51) : Calls Try.prog 32 #[.agg (encL x).toArray, .pointer (some ⟨B, 0, none⟩)] W fun e w' => e = .returned (.bool (decide (x.no = n))) ∧ Below W.heap.size W w' := by
  obtain ⟨no, d, c, a⟩ := x
  dsimp only [encL]
  have p0 : (W.alloc (.cells #[.int .i64 no, .int .i64 d, .int .i64 c, .int .i64 a] 42)).cell? ⟨B, 0, none⟩ = some (.int .i64 n) := (hB.after ((Below.refl _ _).alloc (Nat.le_refl _) _)).cell 0 rfl
  clear hB
  go_enter Try.func32, Try.ntmps32
  go_wp2_with fail
  go_ret
  exact ⟨rfl, (Below.refl _ _).alloc (Nat.le_refl _) _⟩
def NilEnd (w : World) (e : Ending) (w' : World) : Prop := e = .returned (.int .i64 0) ∧ Below w.heap.size w w'
set_option maxHeartbeats 4000000 in
set_option maxRecDepth 100000 in
theorem fits_ok (a : Option Addr) (cap : Nat) (l L : List Lv) (hLl : ∀ x, x ∈ L ↔ x ∈ l) (bm : Nat) (c : Cg) (w : World) (h : SlG w 4 encL a cap l) (hm : MapAt OkPl w bm (L.map entL)) (hl : l.length ≤ 1000) (hf : FitC l c) :
    Calls Try.prog 25 #[.agg (encG c).toArray, .map (some bm), .slice a l.length cap] w (NilEnd w) := by
  obtain ⟨cn, cd, cc, co, cw⟩ := c
  dsimp only [encG]
  obtain ⟨w1, hw1⟩ : ∃ W, w.alloc (.cells #[.int .i64 cn, .int .i64 cd, .int .i64 cc, .int .i64 co, .int .i64 cw] 51) = W := ⟨_, rfl⟩
  have hb1 : Below w.heap.size w w1 := by rw [← hw1]; exact (Below.refl _ _).alloc (Nat.le_refl _) _
  have k1 : Blk w1 w.heap.size #[.int .i64 cn, .int .i64 cd, .int .i64 cc, .int .i64 co, .int .i64 cw] 51 := by rw [← hw1]; exact Blk.new _ _ _
  have HB1 := Lib.hid hb1
  have HK1 := Lib.hid k1
  have HM1 := Lib.hid (hm.after hb1)
  have H1 := Lib.hid (h.after hb1)
  have hcont : ∀ o : Obj, Calls Try.prog 21 #[.slice a l.length cap, .func (.func 32) #[] #[.pointer (some ⟨w.heap.size, 0, none⟩)]] (w1.alloc o) fun e w' => e = .returned (.bool (l.any fun x => decide (x.no = cn))) ∧ Below (w1.alloc o).heap.size (w1.alloc o) w' := fun o => by
    have hbo : Below w1.heap.size w1 (w1.alloc o) := (Below.refl _ _).alloc (Nat.le_refl _) _
    exact cont_ok 32 #[.pointer (some ⟨w.heap.size, 0, none⟩)] (enters_of Try.func32 (by kernel_rfl) rfl) (fun x => decide (x.no = cn)) a cap l (w1.alloc o) (H1.out.after hbo) (fun W x hW => (fitp_ok x w.heap.size cn cd cc co cw W ((HK1.out.after hbo).after hW)).mono fun e w' h => ⟨h.1, hW.trans (h.2.mono hW.size)⟩) hl
  have HC := Lib.hid hcont
  have hk : ∀ o, Below (w1.alloc o).heap.size w1 w1 → True := fun _ _ => trivial
  have HBa : Hid (∀ o : Obj, Below w.heap.size w (w1.alloc o)) := fun o => HB1.out.alloc HB1.out.size _
  clear hb1 k1 hk hcont h hm
  subst hw1
  rcases hf with ⟨f1, f2, f3⟩ | ⟨f1, f2⟩
  · dsimp only at f1 f2
    subst f1 f2
    have HOut : Hid (∀ v, (plV (cd, cc), v) ∉ L.map entL) := fun v hv => by
      obtain ⟨x, hx, e⟩ := List.mem_map.1 hv
      exact f3 x ((hLl x).1 hx) (plV_inj (Prod.mk.inj e).1)
    clear f3 hLl
    go_enter Try.func25, Try.ntmps25
    go_wp2_with (at_lookup; refine wpList_look_out _ rfl _ _ 67 true rfl keyP Try.underlying67 Try.zeroValue42 rfl HM1.out (plV (cd, cc)) rfl ⟨_, rfl⟩ HOut.out ?_)
    with_reducible refine (HC.out _).mono ?_
    rintro e w2 ⟨rfl, hb2⟩
    have HF : Hid (NilEnd w (.returned (.int .i64 0)) w2) := ⟨rfl, (HBa.out _).trans (hb2.mono (HBa.out _).size)⟩
    have kq := (HK1.out.after ((Below.refl _ _).alloc (Nat.le_refl _) _)).after hb2
    have q0 : w2.cell? ⟨w.heap.size, 0, none⟩ = some (.int .i64 (-1)) := kq.cell 0 rfl
    have q3 : w2.cell? ⟨w.heap.size, 3, none⟩ = some (.int .i64 0) := kq.cell 3 rfl
    clear kq
    clear hb2 HC HK1 HBa HB1 HM1
    go_wp2_with fail
    go_ret
    exact HF.out
  · dsimp only at f1 f2
    have e1 : (cn == -1) = false := by rw [beq_eq_false_iff_ne]; omega
    have HIn : Hid ((plV (cd, cc), .agg #[.int .i64 cn, .int .i64 cd, .int .i64 cc, .int .i64 co]) ∈ L.map entL) := List.mem_map.2 ⟨_, (hLl _).2 f2, rfl⟩
    have HAny : Hid ((l.any fun x => decide (x.no = cn)) = true) := List.any_eq_true.2 ⟨_, f2, by simp⟩
    have heq := fun w => lv_self cn cd cc co w
    clear f1 f2 hLl
    go_enter Try.func25, Try.ntmps25
    go_wp2_with (at_lookup; refine wpList_look_in _ rfl _ _ 67 true rfl keyP Try.underlying67 rfl HM1.out (plV (cd, cc)) (.agg #[.int .i64 cn, .int .i64 cd, .int .i64 cc, .int .i64 co]) rfl ⟨_, rfl⟩ HIn.out ?_)
    with_reducible refine (HC.out _).mono ?_
    rintro e w2 ⟨rfl, hb2⟩
    rw [HAny.out]
    have kq := (HK1.out.after ((Below.refl _ _).alloc (Nat.le_refl _) _)).after hb2
    have q0 : w2.cell? ⟨w.heap.size, 0, none⟩ = some (.int .i64 cn) := kq.cell 0 rfl
    have q1 : w2.cell? ⟨w.heap.size, 1, none⟩ = some (.int .i64 cd) := kq.cell 1 rfl
    have q2 : w2.cell? ⟨w.heap.size, 2, none⟩ = some (.int .i64 cc) := kq.cell 2 rfl
    have q3 : w2.cell? ⟨w.heap.size, 3, none⟩ = some (.int .i64 co) := kq.cell 3 rfl
    have kx : Blk w2 (w.heap.size + 1) #[.int .i64 cn, .int .i64 cd, .int .i64 cc, .int .i64 co] 42 := by
      have := (Blk.new (w.alloc (.cells #[.int .i64 cn, .int .i64 cd, .int .i64 cc, .int .i64 co, .int .i64 cw] 51)) #[.int .i64 cn, .int .i64 cd, .int .i64 cc, .int .i64 co] 42).after hb2
      rwa [World.size_alloc] at this
    have x0 : w2.cell? ⟨w.heap.size + 1, 0, none⟩ = some (.int .i64 cn) := kx.cell 0 rfl
    have x1 : w2.cell? ⟨w.heap.size + 1, 1, none⟩ = some (.int .i64 cd) := kx.cell 1 rfl
    have x2 : w2.cell? ⟨w.heap.size + 1, 2, none⟩ = some (.int .i64 cc) := kx.cell 2 rfl
    have x3 : w2.cell? ⟨w.heap.size + 1, 3, none⟩ = some (.int .i64 co) := kx.cell 3 rfl
    clear kq kx
    have HF : Hid (NilEnd w (.returned (.int .i64 0)) w2) := ⟨rfl, (HBa.out _).trans (hb2.mono (HBa.out _).size)⟩
    clear hb2 HC HK1 HBa HB1 HM1
    go_wp2_with fail
    go_ret
    exact HF.out

end Go.Proofs.Ytmjgcenhgpkhiaa
