/- The document's answer for terms (chattelref05): Keys; and that keys sorted, each once, are these. -/
import Derived.Test.YtglnnllodoljkaaDoorChkC
import Derived.Test.YtglnnllodoljkaaDoorDeepC
namespace Go.Proofs.YtglnnllodoljkaaDoor
open Go.RowKit
set_option linter.unusedVariables false
set_option linter.unusedSimpArgs false

/-! ### Plain -/
theorem rising_eq : ∀ (xs ys : List Int), xs.Pairwise (· < ·) → ys.Pairwise (· < ·) → (∀ x, x ∈ xs ↔ x ∈ ys) → xs = ys
  | [], [], _, _, _ => rfl
  | [], y :: ys, _, _, h => by have := (h y).2 (by simp); simp at this
  | x :: xs, [], _, _, h => by have := (h x).1 (by simp); simp at this
  | x :: xs, y :: ys, hx, hy, h => by
    rw [List.pairwise_cons] at hx hy
    have hxy : x = y := by
      have h1 := (h x).1 (by simp)
      have h2 := (h y).2 (by simp)
      rcases List.mem_cons.1 h1 with h1 | h1
      · exact h1
      · rcases List.mem_cons.1 h2 with h2 | h2
        · exact h2.symm
        · have := hy.1 x h1; have := hx.1 y h2; omega
    subst hxy
    congr 1
    refine rising_eq xs ys hx.2 hy.2 fun z => ⟨fun hz => ?_, fun hz => ?_⟩
    · have h1 := hx.1 z hz
      rcases List.mem_cons.1 ((h z).1 (by simp [hz])) with h2 | h2
      · omega
      · exact h2
    · have h1 := hy.1 z hz
      rcases List.mem_cons.1 ((h z).2 (by simp [hz])) with h2 | h2
      · omega
      · exact h2

theorem compact_upto (d : Array Int) (hs : ∀ i j, i ≤ j → j < d.size → d[i]! ≤ d[j]!) : ∀ m, m ≤ d.size →
    (Lib.compactUpTo d m).Pairwise (· < ·) ∧ (∀ x, x ∈ Lib.compactUpTo d m ↔ ∃ j, j < m ∧ d[j]! = x)
  | 0, _ => by simp [Lib.compactUpTo]
  | m + 1, hm => by
    obtain ⟨h1, h2⟩ := compact_upto d hs m (by omega)
    rw [Lib.compactUpTo_succ]
    by_cases hk : Lib.keeps d m = true
    · rw [if_pos hk]
      refine ⟨?_, fun x => ?_⟩
      · rw [List.pairwise_append]
        refine ⟨h1, by simp, fun x hx y hy => ?_⟩
        rw [List.mem_singleton] at hy
        subst hy
        obtain ⟨j, hj, rfl⟩ := (h2 x).1 hx
        have h3 := hs j (m - 1) (by omega) (by omega)
        have h4 := hs (m - 1) m (by omega) (by omega)
        unfold Lib.keeps at hk
        simp at hk
        rcases hk with hk | hk
        · omega
        · omega
      · rw [List.mem_append, h2, List.mem_singleton]
        constructor
        · rintro (⟨j, hj, e⟩ | e)
          · exact ⟨j, by omega, e⟩
          · exact ⟨m, by omega, e.symm⟩
        · rintro ⟨j, hj, e⟩
          rcases Nat.lt_or_ge j m with h | h
          · exact Or.inl ⟨j, h, e⟩
          · obtain rfl : j = m := by omega
            exact Or.inr e.symm
    · rw [if_neg hk, List.append_nil]
      refine ⟨h1, fun x => ?_⟩
      rw [h2]
      constructor
      · rintro ⟨j, hj, e⟩
        exact ⟨j, by omega, e⟩
      · rintro ⟨j, hj, e⟩
        rcases Nat.lt_or_ge j m with h | h
        · exact ⟨j, h, e⟩
        · obtain rfl : j = m := by omega
          unfold Lib.keeps at hk
          simp at hk
          exact ⟨j - 1, by omega, by rw [← e]; omega⟩
theorem compact_spec (zs : List Int) (hs : zs.Pairwise (· ≤ ·)) : (Lib.compact zs).Pairwise (· < ·) ∧ ∀ x, x ∈ Lib.compact zs ↔ x ∈ zs := by
  have hget : ∀ j, j < zs.length → zs.toArray[j]! = zs.getD j 0 := fun j hj => by simp [hj, List.getD_eq_getElem?_getD]
  obtain ⟨h1, h2⟩ := compact_upto zs.toArray (fun i j hij hj => by
    have hj' : j < zs.length := by simpa using hj
    rw [hget i (by omega), hget j hj', List.getD_eq_getElem?_getD, List.getD_eq_getElem?_getD, List.getElem?_eq_getElem hj', List.getElem?_eq_getElem (by omega)]
    rcases Nat.lt_or_ge i j with h | h
    · exact (List.pairwise_iff_getElem.1 hs) i j _ _ h
    · obtain rfl : i = j := by omega
      exact Int.le_refl _) zs.length (by simp)
  refine ⟨h1, fun x => ?_⟩
  rw [show Lib.compact zs = Lib.compactUpTo zs.toArray zs.length from rfl, h2]
  constructor
  · rintro ⟨j, hj, e⟩
    rw [hget j hj] at e
    rw [← e, List.getD_eq_getElem?_getD, List.getElem?_eq_getElem hj]
    exact List.getElem_mem hj
  · intro hx
    obtain ⟨j, hj, e⟩ := List.mem_iff_getElem.1 hx
    exact ⟨j, hj, by rw [hget j hj, List.getD_eq_getElem?_getD, List.getElem?_eq_getElem hj]; exact e⟩

/-- A node of one of two ops that has a key. -/
def hitB (op other key : Int) (n : Nd) : Bool := (n.op == op || n.op == other) && n.a == key
def anyB (ns : List Nd) (op other key : Int) (k : Nat) : Bool := (ns.take k).any (hitB op other key)
/-- The keys up to a number, rising. -/
def keysR (ns : List Nd) (op other : Int) (m : Nat) : List Int := ((List.range m).filter fun k : Nat => anyB ns op other (k : Int) ns.length).map fun k : Nat => (k : Int)
theorem anyB_succ {ns : List Nd} (op other key : Int) {k : Nat} (h : k < ns.length) : anyB ns op other key (k + 1) = (anyB ns op other key k || hitB op other key (Nd.at ns k)) := by
  unfold anyB
  rw [take_nd h, List.any_append]
  simp
theorem keysR_succ (ns : List Nd) (op other : Int) (m : Nat) : keysR ns op other (m + 1) = if anyB ns op other (m : Int) ns.length = true then keysR ns op other m ++ [(m : Int)] else keysR ns op other m := by
  unfold keysR
  rw [List.range_succ, List.filter_append, List.map_append]
  by_cases h : anyB ns op other (m : Int) ns.length = true
  · simp [h]
  · simp [h]
theorem keysR_le (ns : List Nd) (op other : Int) (m : Nat) : (keysR ns op other m).length ≤ m := by
  unfold keysR
  rw [List.length_map]
  exact Nat.le_trans (List.length_filter_le _ _) (by simp)

theorem keys_same {ns : List Nd} {ops : List Int} {op other : Int} (ho : ∀ x, ops.contains x = (x == op || x == other)) (hr : ∀ n ∈ ns, ops.contains n.op = true → 0 ≤ n.a ∧ n.a < 64) : keysV ns ops = keysR ns op other 64 := by
  have hsort : (keyS ns ops).Pairwise (· ≤ ·) := by
    have := List.pairwise_mergeSort (le := fun x y : Int => decide (x ≤ y)) (by intro a b c; simp; omega) (by intro a b; simp; omega) (keyL ns ops)
    exact List.pairwise_iff_getElem.2 fun i j a b h => of_decide_eq_true (List.pairwise_iff_getElem.1 this i j a b h)
  obtain ⟨h1, h2⟩ := compact_spec (keyS ns ops) hsort
  refine rising_eq _ _ h1 ?_ fun x => ?_
  · unfold keysR
    rw [List.pairwise_map]
    exact List.pairwise_iff_getElem.2 fun i j a b h => by have := List.pairwise_iff_getElem.1 ((List.pairwise_lt_range (n := 64)).filter _) i j a b h; omega
  · rw [show keysV ns ops = Lib.compact (keyS ns ops) from rfl, h2]
    unfold keyS keysR
    rw [List.mem_mergeSort]
    unfold keyL
    simp only [List.mem_map, List.mem_filter, List.mem_range]
    constructor
    · rintro ⟨n, ⟨hn, hc⟩, rfl⟩
      obtain ⟨g1, g2⟩ := hr n hn hc
      refine ⟨n.a.toNat, ⟨by omega, ?_⟩, by omega⟩
      unfold anyB
      rw [List.take_length, List.any_eq_true]
      refine ⟨n, hn, ?_⟩
      unfold hitB
      rw [← ho, hc]
      simp
      omega
    · rintro ⟨k, ⟨hk, ha⟩, rfl⟩
      unfold anyB at ha
      rw [List.take_length, List.any_eq_true] at ha
      obtain ⟨n, hn, hh⟩ := ha
      unfold hitB at hh
      rw [← ho] at hh
      simp only [Bool.and_eq_true, beq_iff_eq] at hh
      exact ⟨n, ⟨hn, hh.1⟩, hh.2⟩

def RefKeysEnd (ns : List Nd) (op other : Int) (w : World) (e : Ending) (w' : World) : Prop :=
  ∃ v, e = .returned v ∧ w'.ownsRow w.heap.size 3 1 v (keysR ns op other 64).length ((keysR ns op other 64).map (Value.int .i64)) ∧ Below w.heap.size w w'

set_option maxHeartbeats 4000000 in
set_option maxRecDepth 100000 in
theorem refkeys_ok (a : Option Addr) (cap : Nat) (ns : List Nd) (hl : ns.length ≤ 1000000) (op other : Int) (w : World) (hN : NdsAt w a ns) :
    Calls Tryd.prog 32 #[.slice a ns.length cap, .int .i64 op, .int .i64 other] w (RefKeysEnd ns op other w) := by
  have HN := Lib.hid hN
  obtain ⟨i0, hi, hz0, hz1, hz2⟩ := info_parts infoInt
  have HST := Lib.hid (fun m => keysR_succ ns op other m)
  have HAS := Lib.hid (fun key {k} h => anyB_succ (ns := ns) op other key (k := k) h)
  have HLE := Lib.hid (fun m => keysR_le ns op other m)
  have HEND : Hid (RefKeysEnd ns op other w = fun e w' => ∃ v, e = .returned v ∧ w'.ownsRow w.heap.size 3 1 v (keysR ns op other 64).length ((keysR ns op other 64).map (Value.int .i64)) ∧ Below w.heap.size w w') := rfl
  clear hN
  go_enter Tryd.func32, Tryd.ntmps32
  go_wp2_with fail
  go_loopw [7, 8] (fun v c wr => ∃ m : Nat, m ≤ 64 ∧ c = .int .i64 (m : Int) ∧ Hid (wr.ownsRow w.heap.size 3 1 v (keysR ns op other m).length ((keysR ns op other m).map (Value.int .i64))) ∧ Hid (Below w.heap.size w wr)) (fun _ c _ => 64 - (intOf c).toNat)
  case atStart => exact ⟨0, by omega, rfl, (show w.ownsRow _ _ _ _ _ _ from World.ownsRow_nil w w.heap.size 3 1), (show Below _ _ _ from Below.refl _ _)⟩
  case round =>
    obtain ⟨m, hm, rfl, HOW, HBL⟩ := hrel
    by_cases hlt : m < 64
    · have hlt' : (m : Int) < 64 := by omega
      have HM := Lib.hid hlt
      clear hlt
      go_wp2_with fail
      obtain ⟨W0, hW0⟩ : ∃ W0, W0 = wr := ⟨_, rfl⟩
      subst hW0
      go_loop [9, 10] (fun b c => ∃ k : Nat, k ≤ ns.length ∧ c = .int .i64 (k : Int) ∧ b = .bool (anyB ns op other (m : Int) k)) (fun _ c => ns.length - (intOf c).toNat)
      case atStart => exact ⟨0, by omega, rfl, rfl⟩
      case round =>
        obtain ⟨k, hk, rfl, rfl⟩ := hrel
        by_cases hltk : k < ns.length
        · obtain ⟨b, o, rfl, hc⟩ := (HN.out.after HBL.out) (by omega)
          have c0 : W0.cell? ⟨b, o + k * 5, none⟩ = some (.int .i64 (Nd.at ns k).op) := hc k hltk 0 _ rfl
          have c1 : W0.cell? ⟨b, o + k * 5 + 1, none⟩ = some (.int .i64 (Nd.at ns k).a) := hc k hltk 1 _ rfl
          have HS1 := Lib.hid (HAS.out (m : Int) hltk)
          unfold hitB at HS1
          obtain ⟨x, hx⟩ : ∃ x, anyB ns op other (m : Int) k = x := ⟨_, rfl⟩
          obtain ⟨x', hx'⟩ : ∃ x, anyB ns op other (m : Int) (k + 1) = x := ⟨_, rfl⟩
          obtain ⟨o1, ho1⟩ : ∃ x, (Nd.at ns k).op = x := ⟨_, rfl⟩
          obtain ⟨a1, ha1⟩ : ∃ x, (Nd.at ns k).a = x := ⟨_, rfl⟩
          rw [hx, hx', ho1, ha1] at HS1
          rw [ho1] at c0
          rw [ha1] at c1
          rw [hx]
          have HX' := Lib.hid hx'
          have hltk' : (k : Int) < (ns.length : Int) := by omega
          have HLK := Lib.hid hltk
          clear hc hx hx' ho1 ha1 hltk
          cases x with
          | true =>
            have HR : Hid (x' = true) := by show x' = true; rw [HS1.out]; rfl
            go_wp2_with fail
            refine ⟨⟨k + 1, by have := HLK.out; omega, by go_num, by rw [HX'.out, HR.out]⟩, by have := HLK.out; simp [intOf]; omega⟩
          | false =>
            by_cases e1 : o1 = op
            · subst e1
              by_cases e3 : a1 = (m : Int)
              · have HR : Hid (x' = true) := by show x' = true; rw [HS1.out]; simp [e3]
                subst e3
                go_wp2_with fail
                refine ⟨⟨k + 1, by have := HLK.out; omega, by go_num, by rw [HX'.out, HR.out]⟩, by have := HLK.out; simp [intOf]; omega⟩
              · have HR : Hid (x' = false) := by show x' = false; rw [HS1.out]; simp [e3]
                have e3b : (a1 == (m : Int)) = false := by simp [e3]
                clear e3
                go_wp2_with fail
                refine ⟨⟨k + 1, by have := HLK.out; omega, by go_num, by rw [HX'.out, HR.out]⟩, by have := HLK.out; simp [intOf]; omega⟩
            · have e1b : (o1 == op) = false := by simp [e1]
              by_cases e2 : o1 = other
              · subst e2
                by_cases e3 : a1 = (m : Int)
                · have HR : Hid (x' = true) := by show x' = true; rw [HS1.out]; simp [e3]
                  subst e3
                  clear e1
                  go_wp2_with fail
                  refine ⟨⟨k + 1, by have := HLK.out; omega, by go_num, by rw [HX'.out, HR.out]⟩, by have := HLK.out; simp [intOf]; omega⟩
                · have HR : Hid (x' = false) := by show x' = false; rw [HS1.out]; simp [e3]
                  have e3b : (a1 == (m : Int)) = false := by simp [e3]
                  clear e3 e1
                  go_wp2_with fail
                  refine ⟨⟨k + 1, by have := HLK.out; omega, by go_num, by rw [HX'.out, HR.out]⟩, by have := HLK.out; simp [intOf]; omega⟩
              · have HR : Hid (x' = false) := by show x' = false; rw [HS1.out]; simp [e1, e2]
                have e2b : (o1 == other) = false := by simp [e2]
                clear e1 e2
                go_wp2_with fail
                refine ⟨⟨k + 1, by have := HLK.out; omega, by go_num, by rw [HX'.out, HR.out]⟩, by have := HLK.out; simp [intOf]; omega⟩
        · obtain rfl : k = ns.length := by omega
          have HS1 := Lib.hid (HST.out m)
          have hkl := HLE.out m
          have hzx := HBL.out.size
          obtain ⟨x, hx⟩ : ∃ x, anyB ns op other (m : Int) ns.length = x := ⟨_, rfl⟩
          rw [hx] at HS1 ⊢
          clear hx hltk
          cases x with
          | true =>
            rw [if_pos rfl] at HS1
            go_wp2_with (at_builtin; refine wpList_append_own _ rfl _ _ 27 rfl w.heap.size 3 i0 _ 1 8 Tryd.underlying27 hi hz0 hz1 hz2 rfl (by decide) _ (keysR ns op other m).length _ rfl (HOW.out.alloc _) ⟨_, 0, none⟩ 1 1 [.int .i64 (m : Int)] rfl rfl (cell_one_new _ _ _) (by simp [Value.oneCell']) (by unfold maxLen; omega) (by omega) (by simp; omega) ?_; intro v' w5 hown' hgrow _)
            have hbn := (HBL.out.alloc hzx (.cells #[.int .i64 (m : Int)] 3)).grown hgrow (by simp; omega) (fun q e => (HOW.out.lt q e).1)
            refine ⟨⟨m + 1, by have := HM.out; omega, by go_num, ?_, hbn⟩, by have := HM.out; simp [intOf]; omega⟩
            show w5.ownsRow _ _ _ _ _ _
            rw [HS1.out, List.length_append, List.map_append]
            exact hown'
          | false =>
            rw [if_neg (by simp)] at HS1
            go_wp2_with fail
            refine ⟨⟨m + 1, by have := HM.out; omega, by go_num, by rw [HS1.out]; exact HOW, HBL⟩, by have := HM.out; simp [intOf]; omega⟩
    · obtain rfl : m = 64 := by omega
      go_wp2_with fail
      rw [HEND.out]
      go_ret
      exact ⟨_, rfl, HOW.out, HBL.out⟩

end Go.Proofs.YtglnnllodoljkaaDoor
