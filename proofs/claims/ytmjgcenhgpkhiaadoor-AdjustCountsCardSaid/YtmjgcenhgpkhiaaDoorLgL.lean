/- Package ledger: Live, Post without a ledger. -/
import Derived.Test.YtmjgcenhgpkhiaaDoorLgJ
import Derived.Test.YtmjgcenhgpkhiaaDoorMgH
namespace Go.Proofs.YtmjgcenhgpkhiaaDoor
open Go.RowKit Go.Sort Go.Shelf
set_option linter.unusedVariables false
set_option linter.unusedSimpArgs false

theorem lpost_nil (per seq : Int) (pv : Value) (hpv : pv = .pointer none ∨ ∃ b, pv = .pointer (some ⟨b, 0, none⟩)) (a : Option Addr) (n cap : Nat) (w : World) :
    Calls Tryd.prog 37 #[.pointer none, pv, .int .i64 per, .int .i64 seq, .slice a n cap] w fun e w' => e = .returned (.tuple #[.int .i64 0, .int .i64 2]) ∧ w' = w := by
  rcases hpv with rfl | ⟨b, rfl⟩
  · go_enter Tryd.func37, Tryd.ntmps37
    go_wp2_with fail
    go_ret2
    exact ⟨rfl, rfl⟩
  · go_enter Tryd.func37, Tryd.ntmps37
    go_wp2_with fail
    go_ret2
    exact ⟨rfl, rfl⟩
theorem lpost_noper (p : Nat) (per seq : Int) (a : Option Addr) (n cap : Nat) (w : World) :
    Calls Tryd.prog 37 #[.pointer (some ⟨p, 0, none⟩), .pointer none, .int .i64 per, .int .i64 seq, .slice a n cap] w fun e w' => e = .returned (.tuple #[.int .i64 0, .int .i64 2]) ∧ w' = w := by
  go_enter Tryd.func37, Tryd.ntmps37
  go_wp2_with fail
  go_ret2
  exact ⟨rfl, rfl⟩
def SeqLEnd (w : World) (E : List En) (con : Int) (e : Ending) (w' : World) : Prop :=
  ∃ Bc Bk, e = .returned (.func (.func 44) #[] #[.pointer (some ⟨Bc, 0, none⟩), .pointer (some ⟨Bk, 0, none⟩)]) ∧ LiveAt w' w'.heap.size Bc E ∧ (∀ W, RowKit.Below w'.heap.size w' W → Blk W Bk #[.int .i64 con] 3) ∧ RowKit.Below w.heap.size w w' ∧ ∀ e ∈ E, ∀ x, e.a = some x → 0 < e.ls.length → x.block < w.heap.size
set_option maxHeartbeats 1000000 in
theorem llive_ok (p bm : Nat) (a : Option Addr) (cap : Nat) (E : List En) (con : Int) (w : World) (h : LgAt w p bm a cap E) (hl : E.length ≤ 1000000) (hw : WL (E.map En.p)) :
    Calls Tryd.prog 33 #[.pointer (some ⟨p, 0, none⟩), .int .i64 con] w (SeqLEnd w E con) := by
  obtain ⟨wa, hwa⟩ : ∃ wa, w.alloc (.cells #[.int .i64 con] 3) = wa := ⟨_, rfl⟩
  have hba : Below w.heap.size w wa := by rw [← hwa]; exact (Below.refl _ _).alloc (Nat.le_refl _) _
  have ka : Blk wa w.heap.size #[.int .i64 con] 3 := by rw [← hwa]; exact Blk.new _ _ _
  have HC := Lib.hid (lcopy_ok p bm a cap E wa (h.after hba) hl)
  have HLn : Hid (∀ e ∈ E, ∀ x, e.a = some x → 0 < e.ls.length → x.block < w.heap.size) := fun e he x hx hl => (h.ok e he).ln.lt hl x hx
  have HWA := Lib.hid hwa
  have HBA := Lib.hid hba
  have HKA := Lib.hid ka
  have HW := Lib.hid hw
  clear h hwa hba ka hw
  go_enter Tryd.func33, Tryd.ntmps33
  go_wp2_with fail
  rw [HWA.out]
  with_reducible refine HC.out.mono ?_
  rintro e w1 ⟨p1, bm1, a1, c1, rfl, hL1, _, hb1, hp1, _⟩
  obtain ⟨w2, hw2⟩ : ∃ W, w1.alloc (.cells #[.pointer (some ⟨p1, 0, none⟩)] 49) = W := ⟨_, rfl⟩
  have hb2 : RowKit.Below w1.heap.size w1 w2 := by rw [← hw2]; exact (RowKit.Below.refl _ _).alloc (Nat.le_refl _) _
  have k2 : Blk w2 w1.heap.size #[.pointer (some ⟨p1, 0, none⟩)] 49 := by rw [← hw2]; exact Blk.new _ _ _
  have hF : Hid (SeqLEnd w E con (.returned (.func (.func 44) #[] #[.pointer (some ⟨w1.heap.size, 0, none⟩), .pointer (some ⟨w.heap.size, 0, none⟩)])) w2) := by
    refine ⟨w1.heap.size, w.heap.size, rfl, ⟨_, fun W hW => ⟨k2.after hW, lall_ok p1 bm1 a1 c1 E W ((hL1.after hb2).after hW) hl, fun no hno => lrev_ok p1 bm1 a1 c1 E no W ((hL1.after hb2).after hW) HW.out hno⟩⟩, fun W hW => ((HKA.out.after hb1).after hb2).after hW, HBA.out.trans ((hb1.trans (hb2.mono hb1.size)).mono HBA.out.size), HLn.out⟩
  have HW2 := Lib.hid hw2
  clear hw2 hb2 k2 hL1 hb1
  go_wp2_with fail
  go_ret
  have hw := HW2.out
  subst hw
  exact hF.out
set_option maxHeartbeats 1000000 in
theorem llive_nil (con : Int) (w : World) :
    Calls Tryd.prog 33 #[.pointer none, .int .i64 con] w (SeqLEnd w [] con) := by
  obtain ⟨wa, hwa⟩ : ∃ wa, w.alloc (.cells #[.int .i64 con] 3) = wa := ⟨_, rfl⟩
  have hba : Below w.heap.size w wa := by rw [← hwa]; exact (Below.refl _ _).alloc (Nat.le_refl _) _
  have ka : Blk wa w.heap.size #[.int .i64 con] 3 := by rw [← hwa]; exact Blk.new _ _ _
  have HWA := Lib.hid hwa
  have HBA := Lib.hid hba
  have HKA := Lib.hid ka
  clear hwa hba ka
  go_enter Tryd.func33, Tryd.ntmps33
  go_wp2_with fail
  rw [HWA.out]
  with_reducible refine (lcopy_nil wa).mono ?_
  rintro e w1 ⟨rfl, hw1⟩
  obtain rfl : wa = w1 := hw1.symm
  obtain ⟨w2, hw2⟩ : ∃ W, wa.alloc (.cells #[.pointer none] 49) = W := ⟨_, rfl⟩
  have hb2 : RowKit.Below wa.heap.size wa w2 := by rw [← hw2]; exact (RowKit.Below.refl _ _).alloc (Nat.le_refl _) _
  have k2 : Blk w2 wa.heap.size #[.pointer none] 49 := by rw [← hw2]; exact Blk.new _ _ _
  have hF : Hid (SeqLEnd w [] con (.returned (.func (.func 44) #[] #[.pointer (some ⟨wa.heap.size, 0, none⟩), .pointer (some ⟨w.heap.size, 0, none⟩)])) w2) := by
    refine ⟨wa.heap.size, w.heap.size, rfl, ⟨_, fun W hW => ⟨k2.after hW, lall_nil W, fun no hno => lrev_nil no W⟩⟩, fun W hW => (HKA.out.after hb2).after hW, HBA.out.trans (hb2.mono HBA.out.size), by simp⟩
  have HW2 := Lib.hid hw2
  clear hw2 hb2 k2
  go_wp2_with fail
  go_ret
  have hw := HW2.out
  subst hw
  exact hF.out

end Go.Proofs.YtmjgcenhgpkhiaaDoor
