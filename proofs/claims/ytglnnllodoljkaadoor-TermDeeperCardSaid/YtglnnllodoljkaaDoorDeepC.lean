/- Package term: Keys, Choices; a contract with an op above it: a plain law. -/
import Derived.Test.YtglnnllodoljkaaDoorDeepB
import Derived.Test.YtglnnllodoljkaaDoorJoinD
import Derived.Test.YtglnnllodoljkaaDoorTermE
namespace Go.Proofs.YtglnnllodoljkaaDoor
open Go.RowKit Go.Shelf
set_option linter.unusedVariables false
set_option linter.unusedSimpArgs false

theorem cells_one {w : World} {B : Nat} {x : Int} (h : w.cell? ⟨B, 0, none⟩ = some (.int .i64 x)) : ∀ j, j < [x].length → w.cell? ⟨B, 0 + j, none⟩ = some (.int .i64 ([x].getD j 0)) := fun j hj => by
  obtain rfl : j = 0 := by simp at hj; omega
  exact h
theorem cells_two {w : World} {B : Nat} {x y : Int} (h : w.cell? ⟨B, 0, none⟩ = some (.int .i64 x)) (h' : w.cell? ⟨B, 1, none⟩ = some (.int .i64 y)) : ∀ j, j < [x, y].length → w.cell? ⟨B, 0 + j, none⟩ = some (.int .i64 ([x, y].getD j 0)) := fun j hj => by
  have : j = 0 ∨ j = 1 := by simp at hj; omega
  rcases this with rfl | rfl
  · exact h
  · exact h'

set_option maxHeartbeats 1000000 in
set_option maxRecDepth 100000 in
theorem tkeys_ok (a : Option Addr) (cap : Nat) (ns : List Nd) (hl : ns.length ≤ 1000000) (hI : NdsIn ns) (w : World) (hS : ShapesAt w) (hN : NdsAt w a ns) :
    Calls Tryd.prog 29 #[.slice a ns.length cap] w (KeysEnd ns [2] w) := by
  have HEND : Hid (KeysEnd ns [2] w = fun e w' => ∃ v, e = .returned (.tuple #[v, .int .i64 (chkV ns)]) ∧ (chkV ns = 0 → w'.ownsRow w.heap.size 3 1 v (keysV ns [2]).length ((keysV ns [2]).map (Value.int .i64))) ∧ (chkV ns ≠ 0 → v = .slice none 0 0) ∧ Below w.heap.size w w') := rfl
  obtain ⟨w1, hw1⟩ : ∃ w1, w.alloc (.cells #[.int .i64 2] 3) = w1 := ⟨_, rfl⟩
  have b1 : Hid (Below w.heap.size w w1) := by show Below _ _ _; rw [← hw1]; exact (Below.refl _ _).alloc (Nat.le_refl _) _
  have k1 : Blk w1 w.heap.size #[.int .i64 2] 3 := by rw [← hw1]; exact Blk.new _ _ _
  have HK := Lib.hid (keysl_ok a cap ns hl hI w.heap.size 0 ([2] : List Int).length [2] (by decide) w1 (hS.after b1.out) (hN.after b1.out) (cells_one (k1.cell 0 rfl)))
  unfold KeysEnd at HK
  rw [show ([2] : List Int).length = 1 from rfl] at HK
  clear hS hN hI k1
  go_enter Tryd.func29, Tryd.ntmps29
  go_wp2_with fail
  clear hw1
  with_reducible refine HK.out.mono ?_
  rintro e w2 ⟨v, rfl, h1, h2, hb2⟩
  have H1 := Lib.hid h1
  have H2 := Lib.hid h2
  have HB2 := Lib.hid (b1.out.trans (hb2.mono b1.out.size))
  have hz := Lib.hid b1.out.size
  clear h1 h2 hb2 HK b1
  go_wp2_with fail
  rw [HEND.out]
  refine bodyPost_ret (results_tmp2 rfl _ _ _) rfl ?_
  exact ⟨_, rfl, fun h => own_base (H1.out h) hz.out, H2.out, HB2.out⟩
set_option maxHeartbeats 1000000 in
set_option maxRecDepth 100000 in
theorem choices_ok (a : Option Addr) (cap : Nat) (ns : List Nd) (hl : ns.length ≤ 1000000) (hI : NdsIn ns) (w : World) (hS : ShapesAt w) (hN : NdsAt w a ns) :
    Calls Tryd.prog 30 #[.slice a ns.length cap] w (KeysEnd ns [16, 17] w) := by
  have HEND : Hid (KeysEnd ns [16, 17] w = fun e w' => ∃ v, e = .returned (.tuple #[v, .int .i64 (chkV ns)]) ∧ (chkV ns = 0 → w'.ownsRow w.heap.size 3 1 v (keysV ns [16, 17]).length ((keysV ns [16, 17]).map (Value.int .i64))) ∧ (chkV ns ≠ 0 → v = .slice none 0 0) ∧ Below w.heap.size w w') := rfl
  obtain ⟨w1, hw1⟩ : ∃ w1, w.alloc (.cells #[.int .i64 16, .int .i64 17] 3) = w1 := ⟨_, rfl⟩
  have b1 : Hid (Below w.heap.size w w1) := by show Below _ _ _; rw [← hw1]; exact (Below.refl _ _).alloc (Nat.le_refl _) _
  have k1 : Blk w1 w.heap.size #[.int .i64 16, .int .i64 17] 3 := by rw [← hw1]; exact Blk.new _ _ _
  have HK := Lib.hid (keysl_ok a cap ns hl hI w.heap.size 0 ([16, 17] : List Int).length [16, 17] (by decide) w1 (hS.after b1.out) (hN.after b1.out) (cells_two (k1.cell 0 rfl) (k1.cell 1 rfl)))
  unfold KeysEnd at HK
  rw [show ([16, 17] : List Int).length = 2 from rfl] at HK
  clear hS hN hI k1
  go_enter Tryd.func30, Tryd.ntmps30
  go_wp2_with fail
  clear hw1
  with_reducible refine HK.out.mono ?_
  rintro e w2 ⟨v, rfl, h1, h2, hb2⟩
  have H1 := Lib.hid h1
  have H2 := Lib.hid h2
  have HB2 := Lib.hid (b1.out.trans (hb2.mono b1.out.size))
  have hz := Lib.hid b1.out.size
  clear h1 h2 hb2 HK b1
  go_wp2_with fail
  rw [HEND.out]
  refine bodyPost_ret (results_tmp2 rfl _ _ _) rfl ?_
  exact ⟨_, rfl, fun h => own_base (H1.out h) hz.out, H2.out, HB2.out⟩

theorem at_up (u : Nd) (ns : List Nd) (j : Nat) : Nd.at (u :: ns) (1 + j) = Nd.at ns j := by rw [Nat.add_comm]; rfl
theorem ops_up (u : Nd) (ns : List Nd) (j : Nat) : (opsOf (u :: ns)).drop (1 + j) = (opsOf ns).drop j := by rw [Nat.add_comm]; rfl
/-- A contract with an op above it. -/
theorem up_ofV {u : Nd} {ns : List Nd} (hu1 : mny u.op = 1) (hu0 : shp u.op 0 = 2) (hu2 : shp u.op 2 = 2) (hf : fieldsV u = true) (h : chkV ns = 0) (hl : ns.length ≤ 63) :
    deepF (u :: ns) (u :: ns).length 0 = deepF ns ns.length 0 + 1 ∧ skip 1 ((opsOf (u :: ns)).drop 1) = some ns.length ∧ ofV (u :: ns) = if 12 < deepF ns ns.length 0 + 1 then (0, 15) else (2, 0) := by
  have hk := chk_ok h
  obtain ⟨h1, h2, h3, h4, h5, h6, h7⟩ := ofV_ok (ns := ns) (by rw [hk])
  rw [hk] at h7
  have hlen : (u :: ns).length = ns.length + 1 := rfl
  have hs1 : skip 1 ((opsOf (u :: ns)).drop 1) = some ns.length := by
    have := ops_up u ns 0
    rw [Nat.add_zero, List.drop_zero] at this
    rw [this]
    exact h3
  have hsT : skip 1 (opsOf (u :: ns)) = some (u :: ns).length := by
    rw [show opsOf (u :: ns) = u.op :: opsOf ns from rfl, skip, if_neg (by rw [hu0]; decide), hu1, Nat.zero_add, h3]
    rfl
  have hsub : sub (u :: ns) 1 ns.length = ns := by
    unfold sub
    rw [List.drop_succ_cons, List.drop_zero, List.take_length]
  have hp0 : place (u :: ns) 0 0 = 1 := place_zero _ 0
  have hd : deepF (u :: ns) (u :: ns).length 0 = deepF ns ns.length 0 + 1 := by
    rw [hlen, deepF, show (Nd.at (u :: ns) 0).op = u.op from rfl, hu1]
    have hsd := sub_deep (ns := u :: ns) (i := 1) (q := ns.length) (by omega) hs1 ns.length 0 h2
    rw [hsub] at hsd
    rw [hsd, show List.range 1 = [0] from rfl, List.foldl_cons, List.foldl_nil, hp0, Nat.zero_max]
  have hfields : ∀ i, i < (u :: ns).length → fieldsV (Nd.at (u :: ns) i) = true := fun i hi => by
    cases i with
    | zero => exact hf
    | succ j => exact h4 j (by omega)
  have hsorts : ∀ i, i < (u :: ns).length → sortsOk (u :: ns) i := fun i hi => by
    cases i with
    | zero =>
      intro k hk'
      rw [show (Nd.at (u :: ns) 0).op = u.op from rfl, hu1] at hk'
      obtain rfl : k = 0 := by omega
      unfold sortOk
      rw [hp0]
      exact h7.symm.trans hu2.symm
    | succ j =>
      intro k hk'
      obtain ⟨qj, hq1, hq2⟩ := skip_all h3 (show j < ns.length by omega)
      have hq' : skip 1 ((opsOf (u :: ns)).drop (1 + j)) = some qj := by rw [ops_up]; exact hq1
      have hk2 : k < mny (Nd.at ns j).op := hk'
      have hpl := sub_place (ns := u :: ns) (i := 1) (q := ns.length) (j := j) (by omega) (by omega) hq' hq2 (k := k) (by rw [at_up]; omega)
      rw [hsub] at hpl
      unfold sortOk
      rw [show j + 1 = 1 + j from by omega, ← hpl, at_up, at_up]
      exact h5 j (by omega) k hk2
  refine ⟨hd, hs1, ?_⟩
  unfold ofV
  rw [if_neg (by omega), if_neg (fun h => h.elim (fun h => by omega) (fun h => h hsT)), if_neg (fun h => h hfields), if_neg (fun h => h hsorts), hd]
  split
  · rfl
  · rw [show (Nd.at (u :: ns) 0).op = u.op from rfl, hu0]

def whenN (day : Int) : Nd := ⟨14, day, 0, 0, 0⟩
def giveN : Nd := ⟨11, 0, 0, 0, 0⟩
theorem when_fields {day : Int} (h1 : 0 ≤ day) (h2 : day ≤ 73048) : fieldsV (whenN day) = true := by
  unfold fieldsV fitsV whenN
  rw [if_neg (show ¬ (14 : Int) = 1 by decide)]
  simp [limV]
  omega
theorem give_fields : fieldsV giveN = true := by decide
theorem hor_when {ns : List Nd} {day : Int} (h1 : 0 ≤ day) : horV (whenN day :: ns) = max (horV ns) day := by
  unfold horV
  rw [List.foldl_cons, show horS (-1) (whenN day) = max (-1) day from rfl, hor_max]
theorem hor_give (ns : List Nd) : horV (giveN :: ns) = horV ns := rfl
theorem keys_when (ns : List Nd) (day : Int) : keysV (whenN day :: ns) [2] = keysV ns [2] := by
  have : keyL (whenN day :: ns) [2] = keyL ns [2] := rfl
  unfold keysV keyS
  rw [this]
theorem cat_one (a : Option Addr) (cap : Nat) (ns : List Nd) : catN [⟨a, cap, ns⟩] = ns := by simp [catN]
theorem up_join {u : Nd} {ns : List Nd} {a : Option Addr} {cap : Nat} (hu1 : mny u.op = 1) (hu0 : shp u.op 0 = 2) (hu2 : shp u.op 2 = 2) (hf : fieldsV u = true) (h : chkV ns = 0) (hl : ns.length ≤ 63) :
    joinE u [⟨a, cap, ns⟩] = if 12 < deepF ns ns.length 0 + 1 then 15 else 0 := by
  obtain ⟨_, h2, h3⟩ := up_ofV hu1 hu0 hu2 hf h hl
  have h0 := (ofV_ok (ns := ns) (by rw [chk_ok h])).2.1
  unfold joinE
  rw [cat_one, h3]
  split
  · rfl
  · rw [if_neg (by simp), if_pos]
    intro k hk
    obtain rfl : k = 0 := by simp at hk; omega
    refine ⟨by show ns.length ≠ 0; omega, ?_⟩
    rw [cat_one, show startN [⟨a, cap, ns⟩] 0 = 1 from by simp [startN, catN], endV_some h2, show startN [(⟨a, cap, ns⟩ : Pt)] (0 + 1) = 1 + ns.length from by simp [startN, catN]]
theorem up_chk {u : Nd} {ns : List Nd} (hu1 : mny u.op = 1) (hu0 : shp u.op 0 = 2) (hu2 : shp u.op 2 = 2) (hf : fieldsV u = true) (h : chkV ns = 0) (hl : ns.length ≤ 63) (hd : deepF ns ns.length 0 ≠ 12) :
    chkV (u :: ns) = 0 ∧ depV (u :: ns) = depV ns + 1 := by
  obtain ⟨h1, h2, h3⟩ := up_ofV hu1 hu0 hu2 hf h hl
  have h6 := (ofV_ok (ns := ns) (by rw [chk_ok h])).2.2.2.2.2.1
  rw [if_neg (by omega)] at h3
  have hc : chkV (u :: ns) = 0 := by
    unfold chkV
    rw [h3, if_neg (by simp)]
  refine ⟨hc, ?_⟩
  unfold depV
  rw [if_pos hc, if_pos h, h1]
  push_cast
  rfl

end Go.Proofs.YtglnnllodoljkaaDoor
