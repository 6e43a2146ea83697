/- Package entry: Equal, Same, Mirrors, Amount. -/
import Derived.Test.YtmjgcenhgpkhiaaDoorEntD
import Derived.Laws.StructEq
namespace Go.Proofs.YtmjgcenhgpkhiaaDoor
open Go.RowKit
set_option linter.unusedVariables false
set_option linter.unusedSimpArgs false

deriving instance DecidableEq for Ln

theorem three_eq (p c a p' c' a' : Int) (w : World) (T : TypeId) (fs : Array Field) (hs : Tryd.prog.underlying T = some (.struct fs)) (hh : Tryd.prog.stoodInHeld T = false)
    (hf : fs.toList.map (fun f => (f.type, f.offset, decide (f.name = "_"))) = [(3, 0, false), (3, 1, false), (3, 2, false)]) :
    (Op.equalIn 10000 T (.agg #[.int .i64 p, .int .i64 c, .int .i64 a]) (.agg #[.int .i64 p', .int .i64 c', .int .i64 a'])).run Tryd.prog w = .ok (decide ((⟨p, c, a⟩ : Ln) = ⟨p', c', a'⟩)) w := by
  have hi : Tryd.prog.underlying 3 = some (.int .i64) := by kernel_rfl
  have hfs : Tryd.prog.fieldsOf T = fs := by unfold Program.fieldsOf; rw [hs]
  rw [run_equalIn_agg w 9999 _ _ _ (by rw [hfs]; exact hs) hh, hfs]
  have q0 : ∀ x y z : Int, (part 3 #[.int .i64 x, .int .i64 y, .int .i64 z] 0).run Tryd.prog w = .ok (.int .i64 x) w := fun x y z => by kernel_rfl
  have q1 : ∀ x y z : Int, (part 3 #[.int .i64 x, .int .i64 y, .int .i64 z] 1).run Tryd.prog w = .ok (.int .i64 y) w := fun x y z => by kernel_rfl
  have q2 : ∀ x y z : Int, (part 3 #[.int .i64 x, .int .i64 y, .int .i64 z] 2).run Tryd.prog w = .ok (.int .i64 z) w := fun x y z => by kernel_rfl
  obtain ⟨f, g, h, hl⟩ : ∃ f g h, fs.toList = [f, g, h] := by
    have := congrArg List.length hf
    revert this
    generalize fs.toList = l
    intro this
    match l, this with
    | [f, g, h], _ => exact ⟨f, g, h, rfl⟩
  rw [hl] at hf ⊢
  · simp only [List.map_cons, List.map_nil, List.cons.injEq, Prod.mk.injEq, decide_eq_false_iff_not, and_true] at hf
    obtain ⟨⟨f1, f2, f3⟩, ⟨g1, g2, g3⟩, ⟨h1, h2, h3⟩⟩ := hf
    by_cases e1 : p = p' <;> by_cases e2 : c = c' <;> by_cases e3 : a = a' <;>
      simp [Op.eqFields, f1, f2, f3, g1, g2, g3, h1, h2, h3, Sem.run_bind, q0, q1, q2, run_equalIn_int w 9998 _ .i64 .i64 _ _ hi, e1, e2, e3]

theorem line_ne (p c a p' c' a' : Int) (w : World) : (binOp .neq 69 (.agg #[.int .i64 p, .int .i64 c, .int .i64 a]) (.agg #[.int .i64 p', .int .i64 c', .int .i64 a'])).run Tryd.prog w = .ok (.bool (!decide ((⟨p, c, a⟩ : Ln) = ⟨p', c', a'⟩))) w := by
  rw [run_neq_struct, three_eq p c a p' c' a' w _ _ Tryd.underlying69 (by kernel_rfl) rfl]
  rfl
theorem tag_eq (p c a p' c' a' : Int) (w : World) : (binOp .eql 23 (.agg #[.int .i64 p, .int .i64 c, .int .i64 a]) (.agg #[.int .i64 p', .int .i64 c', .int .i64 a'])).run Tryd.prog w = .ok (.bool (decide ((⟨p, c, a⟩ : Ln) = ⟨p', c', a'⟩))) w := by
  rw [run_eql_struct, three_eq p c a p' c' a' w _ _ Tryd.underlying23 (by kernel_rfl) rfl]
  rfl

theorem at_eq_list : ∀ (xs ys : List Ln), xs.length = ys.length → (∀ j, j < xs.length → Ln.at xs j = Ln.at ys j) → xs = ys
  | [], [], _, _ => rfl
  | [], y :: ys, h, _ => by simp at h
  | x :: xs, [], h, _ => by simp at h
  | x :: xs, y :: ys, h, g => by
    have h0 : x = y := g 0 (by simp)
    rw [h0, at_eq_list xs ys (by simpa using h) fun j hj => g (j + 1) (by simpa using hj)]

set_option maxHeartbeats 1000000 in
theorem equal_ok (a b : Option Addr) (ca cb : Nat) (xs ys : List Ln) (w : World) (hx : LnAt w a xs) (hy : LnAt w b ys) (hl : xs.length ≤ 1000000) (hm : ys.length ≤ 1000000) :
    Calls Tryd.prog 26 #[.slice a xs.length ca, .slice b ys.length cb] w fun e w' => e = .returned (.bool (decide (xs = ys))) ∧ Below w.heap.size w w' := by
  by_cases hn : xs.length = ys.length
  · have hxy := Lib.hid (at_eq_list xs ys hn)
    obtain ⟨n, hN⟩ : ∃ n, ys.length = n := ⟨_, rfl⟩
    rw [hn, hN]
    rw [hn, hN] at hl hxy
    have HN := Lib.hid hn
    have HN2 := Lib.hid hN
    clear hn hN hm
    go_enter Tryd.func26, Tryd.ntmps26
    go_wp2_with fail
    go_loopw [5, 13] (fun _ i wr => ∃ k : Nat, k ≤ n ∧ i = .int .i64 k ∧ (∀ j, j < k → Ln.at xs j = Ln.at ys j) ∧ Below w.heap.size w wr) (fun _ i _ => n - (intOf i).toNat)
    case atStart => exact ⟨0, by omega, rfl, fun j hj => absurd hj (by omega), Below.refl _ _⟩
    case round =>
      obtain ⟨k, hk, rfl, hall, hbl⟩ := hrel
      have HA := Lib.hid hall
      clear hall
      by_cases hlt : k < n
      · obtain ⟨ba, oa, rfl, hca⟩ := hx.after hbl (by have := HN.out; have := HN2.out; omega)
        obtain ⟨bb, ob, rfl, hcb⟩ := hy.after hbl (by have := HN2.out; omega)
        obtain ⟨c0, c1, c2⟩ := hca k (by have := HN.out; have := HN2.out; omega)
        obtain ⟨d0, d1, d2⟩ := hcb k (by have := HN2.out; omega)
        have i1 : (0 : Int) ≤ (k : Int) := by omega
        have i2 : (k : Int) < (n : Int) := by omega
        have hne := line_ne (Ln.at xs k).p (Ln.at xs k).c (Ln.at xs k).a (Ln.at ys k).p (Ln.at ys k).c (Ln.at ys k).a
        clear hca hcb hx hy
        by_cases he : Ln.at xs k = Ln.at ys k
        · have HE := Lib.hid he
          have h1 : decide ((⟨(Ln.at xs k).p, (Ln.at xs k).c, (Ln.at xs k).a⟩ : Ln) = ⟨(Ln.at ys k).p, (Ln.at ys k).c, (Ln.at ys k).a⟩) = true := by rw [decide_eq_true_iff]; exact he
          rw [h1] at hne
          clear he h1
          go_wp2_with (go_quiet (fail))
          go_roundw
          case rel => exact ⟨k + 1, by omega, by go_num, fun j hj => by
            rcases Nat.lt_or_ge j k with g | g
            · exact HA.out j g
            · obtain rfl : j = k := by omega
              exact HE.out, hbl.trans (below_draws _ _)⟩
          case measure => simp [intOf]; omega
        · have HE := Lib.hid he
          have h1 : decide ((⟨(Ln.at xs k).p, (Ln.at xs k).c, (Ln.at xs k).a⟩ : Ln) = ⟨(Ln.at ys k).p, (Ln.at ys k).c, (Ln.at ys k).a⟩) = false := by rw [decide_eq_false_iff_not]; exact he
          rw [h1] at hne
          clear he h1
          go_wp2_with (go_quiet (fail))
          go_ret
          exact ⟨ret_bool (by rw [eq_comm, decide_eq_false_iff_not]; exact fun h => HE.out (by rw [h])), hbl.trans (below_draws _ _)⟩
      · obtain rfl : k = n := by omega
        go_wp2_with fail
        go_ret
        exact ⟨ret_bool (by rw [eq_comm, decide_eq_true_iff]; exact hxy.out HA.out), hbl⟩
  · have h1 : (xs.length : Int) ≠ (ys.length : Int) := by omega
    have HN := Lib.hid hn
    clear hn
    go_enter Tryd.func26, Tryd.ntmps26
    go_wp2_with fail
    go_ret
    exact ⟨ret_bool (by rw [eq_comm, decide_eq_false_iff_not]; exact fun h => HN.out (by rw [h])), Below.refl _ _⟩

end Go.Proofs.YtmjgcenhgpkhiaaDoor
