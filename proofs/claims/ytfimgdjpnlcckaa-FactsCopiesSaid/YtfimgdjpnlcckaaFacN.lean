/- The document's Put. -/
import Derived.Test.YtfimgdjpnlcckaaFacM
namespace Go.Proofs.Ytfimgdjpnlcckaa
open Go.RowKit
set_option linter.unusedVariables false
set_option linter.unusedSimpArgs false

theorem infoFc : (Try.prog.info? 43).map (fun i => (i.zero, i.size, i.bytes)) = some (some (.agg #[.int .i64 0, .int .i64 0, .int .i64 0, .int .i64 0, .int .i64 0]), 5, 40) := by kernel_rfl
def PutEnd (w : World) (l : List Fc) (e : Ending) (w' : World) : Prop :=
  ∃ a cap, e = .returned (.slice a l.length cap) ∧ RecsAt w' a 5 encF l ∧ Below w.heap.size w w'
theorem app_blk {wy w3 : World} {v : Value} {tmp : Obj} {B : Nat} {cs : Array Value} {T : TypeId} (hg : (wy.alloc tmp).grownBy w3 v.ownBlock) (hB : Blk wy B cs T) (hne : ∀ g, v.ownBlock = some g → g ≠ B) : Blk w3 B cs T :=
  (hB.alloc _).grown hg fun e => hne _ e rfl
theorem app_below {N base size n : Nat} {e : TypeId} {w0 wy w3 : World} {v : Value} {cs : List Value} {tmp : Obj} (hb : Below N w0 wy) (hN : N ≤ wy.heap.size) (ho : wy.ownsRow base e size v n cs) (hbase : N ≤ base) (hg : (wy.alloc tmp).grownBy w3 v.ownBlock) : Below N w0 w3 :=
  (hb.alloc hN tmp).grown hg (by simp; omega) fun k e => by have := (own_base ho e).1; omega


set_option maxHeartbeats 8000000 in
set_option maxRecDepth 100000 in
theorem put_ok (a : Option Addr) (cap : Nat) (l : List Fc) (x : Fc) (hl : l.length ≤ 1000) (w : World) (h : RecsAt w a 5 encF l) :
    Calls Try.prog 29 #[.slice a l.length cap, .agg (encF x).toArray] w (PutEnd w (putEnd x (putF l x))) := by
  obtain ⟨i0, hi, hi0, hi1, hi2⟩ := info_parts infoFc
  obtain ⟨w0, hw0⟩ : ∃ w0, w.alloc (.cells (encF x).toArray 43) = w0 := ⟨_, rfl⟩
  have hb0 : Below w.heap.size w w0 := by rw [← hw0]; exact (Below.refl _ _).alloc (Nat.le_refl _) _
  have z0 : w0.heap.size = w.heap.size + 1 := by rw [← hw0]; simp
  have KX : Hid (Blk w0 w.heap.size (encF x).toArray 43) := by rw [← hw0]; exact Blk.new _ _ _
  have HR := Lib.hid (h.after hb0)
  have HB0 := Lib.hid hb0
  have Z0 := Lib.hid z0
  clear h hb0 z0
  obtain ⟨xk, xd, xn, xm, xp⟩ := x
  dsimp only [encF] at *
  go_enter Try.func29, Try.ntmps29
  go_wp2_with fail
  clear hw0
  go_loopw [5, 6, 7] (fun v s i wr => ∃ j : Nat, j ≤ l.length ∧ i = .int .i64 j ∧ s = .bool (putF (l.take j) ⟨xk, xd, xn, xm, xp⟩).1 ∧ Hid (wr.ownsRow w0.heap.size 43 5 v (putF (l.take j) ⟨xk, xd, xn, xm, xp⟩).2.length (cellsL encF (putF (l.take j) ⟨xk, xd, xn, xm, xp⟩).2)) ∧ Hid (Below w0.heap.size w0 wr)) (fun _ _ i _ => l.length - (intOf i).toNat)
  case atStart => exact ⟨0, by omega, rfl, rfl, World.ownsRow_nil _ _ _ _, Below.refl _ _⟩
  case round =>
    obtain ⟨j, hj, rfl, rfl, HO, HB⟩ := hrel
    have zr := HB.out.size
    by_cases hlt : j < l.length
    · have hx := List.getElem?_eq_getElem hlt
      have hT : l.take (j + 1) = l.take j ++ [l[j]] := List.take_succ_eq_append_getElem hlt
      obtain ⟨y, hy⟩ : ∃ y, l[j] = y := ⟨_, rfl⟩
      rw [hy] at hx hT
      have HT : Hid (putF (l.take (j + 1)) ⟨xk, xd, xn, xm, xp⟩ = putGo ⟨xk, xd, xn, xm, xp⟩ y (putF (l.take j) ⟨xk, xd, xn, xm, xp⟩)) := by show _ = _; rw [hT, putF_snoc]
      have hlen : (putF (l.take j) ⟨xk, xd, xn, xm, xp⟩).2.length ≤ 2000 := by
        have h1 := putF_len ⟨xk, xd, xn, xm, xp⟩ (l.take j) (false, [])
        have h2 : (l.take j).length ≤ l.length := by rw [List.length_take]; omega
        have h3 : (putF (l.take j) ⟨xk, xd, xn, xm, xp⟩).2.length ≤ 0 + 2 * (l.take j).length := h1
        omega
      obtain ⟨s, hs⟩ : ∃ s, putF (l.take j) ⟨xk, xd, xn, xm, xp⟩ = s := ⟨_, rfl⟩
      rw [hs] at HO HT hlen ⊢
      obtain ⟨s1, s2⟩ := s
      clear hs hT hy
      have hR := HR.out.after HB.out
      obtain ⟨b, o, rfl, _⟩ := hR (by omega)
      obtain ⟨yk, yd, yn, ym, yp⟩ := y
      have y0 : wr.cell? ⟨b, o + j * 5, none⟩ = some (.int .i64 yk) := RecsAt.cell hR rfl hlt hx (j := 0) rfl
      have y1 : wr.cell? ⟨b, o + j * 5 + 1, none⟩ = some (.int .i64 yd) := RecsAt.cell hR rfl hlt hx (j := 1) rfl
      have y2 : wr.cell? ⟨b, o + j * 5 + 2, none⟩ = some (.int .i64 yn) := RecsAt.cell hR rfl hlt hx (j := 2) rfl
      have y3 : wr.cell? ⟨b, o + j * 5 + 3, none⟩ = some (.int .i64 ym) := RecsAt.cell hR rfl hlt hx (j := 3) rfl
      have y4 : wr.cell? ⟨b, o + j * 5 + 4, none⟩ = some (.int .i64 yp) := RecsAt.cell hR rfl hlt hx (j := 4) rfl
      obtain ⟨wy, hwy⟩ : ∃ wy, wr.alloc (.cells #[.int .i64 yk, .int .i64 yd, .int .i64 yn, .int .i64 ym, .int .i64 yp] 43) = wy := ⟨_, rfl⟩
      have hby : Below wr.heap.size wr wy := by rw [← hwy]; exact (Below.refl _ _).alloc (Nat.le_refl _) _
      have zy : wy.heap.size = wr.heap.size + 1 := by rw [← hwy]; simp
      have KY : Hid (Blk wy wr.heap.size #[.int .i64 yk, .int .i64 yd, .int .i64 yn, .int .i64 ym, .int .i64 yp] 43) := by rw [← hwy]; exact Blk.new _ _ _
      have HBY : Hid (Below w0.heap.size w0 wy) := HB.out.trans (hby.mono zr)
      have HOY := Lib.hid (own_after HO.out hby)
      have hzy : w.heap.size < wr.heap.size ∧ wr.heap.size < wy.heap.size := by have := Z0.out; omega
      have ZY := Lib.hid zy
      have hz0 : w.heap.size < w0.heap.size := by have := Z0.out; omega
      have KXY := Lib.hid (KX.out.after HBY.out)
      have x0 : wy.cell? ⟨w.heap.size, 0, none⟩ = some (.int .i64 xk) := (KXY.out).cell 0 rfl
      have x1 : wy.cell? ⟨w.heap.size, 1, none⟩ = some (.int .i64 xd) := (KXY.out).cell 1 rfl
      have x2 : wy.cell? ⟨w.heap.size, 2, none⟩ = some (.int .i64 xn) := (KXY.out).cell 2 rfl
      have x3 : wy.cell? ⟨w.heap.size, 3, none⟩ = some (.int .i64 xm) := (KXY.out).cell 3 rfl
      have x4 : wy.cell? ⟨w.heap.size, 4, none⟩ = some (.int .i64 xp) := (KXY.out).cell 4 rfl
      have v0 : wy.cell? ⟨wr.heap.size, 0, none⟩ = some (.int .i64 yk) := (KY.out).cell 0 rfl
      have v1 : wy.cell? ⟨wr.heap.size, 1, none⟩ = some (.int .i64 yd) := (KY.out).cell 1 rfl
      have v2 : wy.cell? ⟨wr.heap.size, 2, none⟩ = some (.int .i64 yn) := (KY.out).cell 2 rfl
      have v3 : wy.cell? ⟨wr.heap.size, 3, none⟩ = some (.int .i64 ym) := (KY.out).cell 3 rfl
      have v4 : wy.cell? ⟨wr.heap.size, 4, none⟩ = some (.int .i64 yp) := (KY.out).cell 4 rfl
      clear hx hR hby zy
      dsimp only at HO hlen
      cases s1 with
      | true =>
        rcases Int.lt_trichotomy yk xk with hk | hk | hk
        · have n1 : (yk == xk) = false := by rw [beq_eq_false_iff_ne]; omega
          have n2 : (yk != xk) = true := by rw [bne_iff_ne]; omega
          have HG : Hid (putF (l.take (j + 1)) ⟨xk, xd, xn, xm, xp⟩ = ((true, s2 ++ [⟨yk, yd, yn, ym, yp⟩]))) := by
            show _ = _
            rw [HT.out]
            unfold putGo
            rw [if_neg (by simp)]; dsimp only; rw [if_pos (by omega)]
          clear HT
          go_wp2_with (first
            | (at_builtin; refine wpList_append_own _ rfl (.tmp 58) (.tmp 60) 33 rfl w0.heap.size 43 i0 _ 5 40 Try.underlying33 hi hi0 hi1 hi2 rfl (by decide) _ s2.length _ rfl (HOY.out.alloc _) ⟨wy.heap.size, 0, none⟩ 1 1 [.int .i64 yk, .int .i64 yd, .int .i64 yn, .int .i64 ym, .int .i64 yp] rfl rfl (World.news_of_block (cs := #[.int .i64 yk, .int .i64 yd, .int .i64 yn, .int .i64 ym, .int .i64 yp]) (t := 43) (fr := (0, 0)) (alloc_at (by simp))) (by simp [Value.oneCell']) (by unfold maxLen; omega) (by omega) (by simp; omega) ?_; intro v4 w4 hown4 hgrow4 _; have HB4 := Lib.hid (app_below HBY.out HBY.out.size HOY.out (Nat.le_refl _) hgrow4)))
          go_roundw
          case rel => exact ⟨j + 1, by omega, by go_num, by rw [HG.out], (by
            show World.ownsRow _ _ _ _ _ _ _
            rw [HG.out]
            dsimp only
            rw [List.length_append, cellsL_snoc]
            exact hown4), HB4⟩
          case measure => simp [intOf]; omega
        · subst hk
          rcases Int.lt_trichotomy yd xd with hd | hd | hd
          · have n1 : (yd == xd) = false := by rw [beq_eq_false_iff_ne]; omega
            have n2 : (yd != xd) = true := by rw [bne_iff_ne]; omega
            have HG : Hid (putF (l.take (j + 1)) ⟨yk, xd, xn, xm, xp⟩ = ((true, s2 ++ [⟨yk, yd, yn, ym, yp⟩]))) := by
              show _ = _
              rw [HT.out]
              unfold putGo
              rw [if_neg (by simp)]; dsimp only; rw [if_pos (by omega)]
            clear HT
            go_wp2_with (first
              | (at_builtin; refine wpList_append_own _ rfl (.tmp 58) (.tmp 60) 33 rfl w0.heap.size 43 i0 _ 5 40 Try.underlying33 hi hi0 hi1 hi2 rfl (by decide) _ s2.length _ rfl (HOY.out.alloc _) ⟨wy.heap.size, 0, none⟩ 1 1 [.int .i64 yk, .int .i64 yd, .int .i64 yn, .int .i64 ym, .int .i64 yp] rfl rfl (World.news_of_block (cs := #[.int .i64 yk, .int .i64 yd, .int .i64 yn, .int .i64 ym, .int .i64 yp]) (t := 43) (fr := (0, 0)) (alloc_at (by simp))) (by simp [Value.oneCell']) (by unfold maxLen; omega) (by omega) (by simp; omega) ?_; intro v4 w4 hown4 hgrow4 _; have HB4 := Lib.hid (app_below HBY.out HBY.out.size HOY.out (Nat.le_refl _) hgrow4)))
            go_roundw
            case rel => exact ⟨j + 1, by omega, by go_num, by rw [HG.out], (by
              show World.ownsRow _ _ _ _ _ _ _
              rw [HG.out]
              dsimp only
              rw [List.length_append, cellsL_snoc]
              exact hown4), HB4⟩
            case measure => simp [intOf]; omega
          · subst hd
            have HG : Hid (putF (l.take (j + 1)) ⟨yk, yd, xn, xm, xp⟩ = ((true, s2))) := by
              show _ = _
              rw [HT.out]
              unfold putGo
              rw [if_neg (by simp)]; dsimp only; rw [if_neg (by omega)]
            clear HT
            go_wp2_with fail
            go_roundw
            case rel => exact ⟨j + 1, by omega, by go_num, by rw [HG.out], (by
              show World.ownsRow _ _ _ _ _ _ _
              rw [HG.out]
              dsimp only
              skip
              exact HOY.out), HBY⟩
            case measure => simp [intOf]; omega
          · have n1 : (yd == xd) = false := by rw [beq_eq_false_iff_ne]; omega
            have n2 : (yd != xd) = true := by rw [bne_iff_ne]; omega
            have HG : Hid (putF (l.take (j + 1)) ⟨yk, xd, xn, xm, xp⟩ = ((true, s2 ++ [⟨yk, yd, yn, ym, yp⟩]))) := by
              show _ = _
              rw [HT.out]
              unfold putGo
              rw [if_neg (by simp)]; dsimp only; rw [if_pos (by omega)]
            clear HT
            go_wp2_with (first
              | (at_builtin; refine wpList_append_own _ rfl (.tmp 58) (.tmp 60) 33 rfl w0.heap.size 43 i0 _ 5 40 Try.underlying33 hi hi0 hi1 hi2 rfl (by decide) _ s2.length _ rfl (HOY.out.alloc _) ⟨wy.heap.size, 0, none⟩ 1 1 [.int .i64 yk, .int .i64 yd, .int .i64 yn, .int .i64 ym, .int .i64 yp] rfl rfl (World.news_of_block (cs := #[.int .i64 yk, .int .i64 yd, .int .i64 yn, .int .i64 ym, .int .i64 yp]) (t := 43) (fr := (0, 0)) (alloc_at (by simp))) (by simp [Value.oneCell']) (by unfold maxLen; omega) (by omega) (by simp; omega) ?_; intro v4 w4 hown4 hgrow4 _; have HB4 := Lib.hid (app_below HBY.out HBY.out.size HOY.out (Nat.le_refl _) hgrow4)))
            go_roundw
            case rel => exact ⟨j + 1, by omega, by go_num, by rw [HG.out], (by
              show World.ownsRow _ _ _ _ _ _ _
              rw [HG.out]
              dsimp only
              rw [List.length_append, cellsL_snoc]
              exact hown4), HB4⟩
            case measure => simp [intOf]; omega
        · have n1 : (yk == xk) = false := by rw [beq_eq_false_iff_ne]; omega
          have n2 : (yk != xk) = true := by rw [bne_iff_ne]; omega
          have HG : Hid (putF (l.take (j + 1)) ⟨xk, xd, xn, xm, xp⟩ = ((true, s2 ++ [⟨yk, yd, yn, ym, yp⟩]))) := by
            show _ = _
            rw [HT.out]
            unfold putGo
            rw [if_neg (by simp)]; dsimp only; rw [if_pos (by omega)]
          clear HT
          go_wp2_with (first
            | (at_builtin; refine wpList_append_own _ rfl (.tmp 58) (.tmp 60) 33 rfl w0.heap.size 43 i0 _ 5 40 Try.underlying33 hi hi0 hi1 hi2 rfl (by decide) _ s2.length _ rfl (HOY.out.alloc _) ⟨wy.heap.size, 0, none⟩ 1 1 [.int .i64 yk, .int .i64 yd, .int .i64 yn, .int .i64 ym, .int .i64 yp] rfl rfl (World.news_of_block (cs := #[.int .i64 yk, .int .i64 yd, .int .i64 yn, .int .i64 ym, .int .i64 yp]) (t := 43) (fr := (0, 0)) (alloc_at (by simp))) (by simp [Value.oneCell']) (by unfold maxLen; omega) (by omega) (by simp; omega) ?_; intro v4 w4 hown4 hgrow4 _; have HB4 := Lib.hid (app_below HBY.out HBY.out.size HOY.out (Nat.le_refl _) hgrow4)))
          go_roundw
          case rel => exact ⟨j + 1, by omega, by go_num, by rw [HG.out], (by
            show World.ownsRow _ _ _ _ _ _ _
            rw [HG.out]
            dsimp only
            rw [List.length_append, cellsL_snoc]
            exact hown4), HB4⟩
          case measure => simp [intOf]; omega
      | false =>
        rcases Int.lt_trichotomy yk xk with hk | hk | hk
        · have n1 : (yk == xk) = false := by rw [beq_eq_false_iff_ne]; omega
          have n2 : (yk != xk) = true := by rw [bne_iff_ne]; omega
          have n3 : decide (xk < yk) = false := decide_eq_false (by omega)
          have HG : Hid (putF (l.take (j + 1)) ⟨xk, xd, xn, xm, xp⟩ = ((false, s2 ++ [⟨yk, yd, yn, ym, yp⟩]))) := by
            show _ = _
            rw [HT.out]
            unfold putGo
            rw [if_neg (by simp; omega)]; dsimp only; rw [if_pos (by omega)]
          clear HT
          go_wp2_with (first
            | (at_builtin; refine wpList_append_own _ rfl (.tmp 58) (.tmp 60) 33 rfl w0.heap.size 43 i0 _ 5 40 Try.underlying33 hi hi0 hi1 hi2 rfl (by decide) _ s2.length _ rfl (HOY.out.alloc _) ⟨wy.heap.size, 0, none⟩ 1 1 [.int .i64 yk, .int .i64 yd, .int .i64 yn, .int .i64 ym, .int .i64 yp] rfl rfl (World.news_of_block (cs := #[.int .i64 yk, .int .i64 yd, .int .i64 yn, .int .i64 ym, .int .i64 yp]) (t := 43) (fr := (0, 0)) (alloc_at (by simp))) (by simp [Value.oneCell']) (by unfold maxLen; omega) (by omega) (by simp; omega) ?_; intro v4 w4 hown4 hgrow4 _; have HB4 := Lib.hid (app_below HBY.out HBY.out.size HOY.out (Nat.le_refl _) hgrow4)))
          go_roundw
          case rel => exact ⟨j + 1, by omega, by go_num, by rw [HG.out], (by
            show World.ownsRow _ _ _ _ _ _ _
            rw [HG.out]
            dsimp only
            rw [List.length_append, cellsL_snoc]
            exact hown4), HB4⟩
          case measure => simp [intOf]; omega
        · subst hk
          have n0 : decide (yk < yk) = false := decide_eq_false (by omega)
          rcases Int.lt_trichotomy yd xd with hd | hd | hd
          · have n1 : (yd == xd) = false := by rw [beq_eq_false_iff_ne]; omega
            have n2 : (yd != xd) = true := by rw [bne_iff_ne]; omega
            have n3 : decide (xd ≤ yd) = false := decide_eq_false (by omega)
            have HG : Hid (putF (l.take (j + 1)) ⟨yk, xd, xn, xm, xp⟩ = ((false, s2 ++ [⟨yk, yd, yn, ym, yp⟩]))) := by
              show _ = _
              rw [HT.out]
              unfold putGo
              rw [if_neg (by simp; omega)]; dsimp only; rw [if_pos (by omega)]
            clear HT
            go_wp2_with (first
              | (at_builtin; refine wpList_append_own _ rfl (.tmp 58) (.tmp 60) 33 rfl w0.heap.size 43 i0 _ 5 40 Try.underlying33 hi hi0 hi1 hi2 rfl (by decide) _ s2.length _ rfl (HOY.out.alloc _) ⟨wy.heap.size, 0, none⟩ 1 1 [.int .i64 yk, .int .i64 yd, .int .i64 yn, .int .i64 ym, .int .i64 yp] rfl rfl (World.news_of_block (cs := #[.int .i64 yk, .int .i64 yd, .int .i64 yn, .int .i64 ym, .int .i64 yp]) (t := 43) (fr := (0, 0)) (alloc_at (by simp))) (by simp [Value.oneCell']) (by unfold maxLen; omega) (by omega) (by simp; omega) ?_; intro v4 w4 hown4 hgrow4 _; have HB4 := Lib.hid (app_below HBY.out HBY.out.size HOY.out (Nat.le_refl _) hgrow4)))
            go_roundw
            case rel => exact ⟨j + 1, by omega, by go_num, by rw [HG.out], (by
              show World.ownsRow _ _ _ _ _ _ _
              rw [HG.out]
              dsimp only
              rw [List.length_append, cellsL_snoc]
              exact hown4), HB4⟩
            case measure => simp [intOf]; omega
          · subst hd
            have HG : Hid (putF (l.take (j + 1)) ⟨yk, yd, xn, xm, xp⟩ = ((true, s2 ++ [⟨yk, yd, xn, xm, xp⟩]))) := by
              show _ = _
              rw [HT.out]
              unfold putGo
              rw [if_pos (by refine ⟨rfl, ?_⟩; dsimp only; omega)]; dsimp only; rw [if_neg (by omega)]
            clear HT
            go_wp2_with (first
              | (at_builtin; refine wpList_append_own _ rfl (.tmp 42) (.tmp 44) 33 rfl w0.heap.size 43 i0 _ 5 40 Try.underlying33 hi hi0 hi1 hi2 rfl (by decide) _ s2.length _ rfl (HOY.out.alloc _) ⟨wy.heap.size, 0, none⟩ 1 1 [.int .i64 yk, .int .i64 yd, .int .i64 xn, .int .i64 xm, .int .i64 xp] rfl rfl (World.news_of_block (cs := #[.int .i64 yk, .int .i64 yd, .int .i64 xn, .int .i64 xm, .int .i64 xp]) (t := 43) (fr := (0, 0)) (alloc_at (by simp))) (by simp [Value.oneCell']) (by unfold maxLen; omega) (by omega) (by simp; omega) ?_; intro v3 w3 hown3 hgrow3 _; have hX3 := app_blk hgrow3 KXY.out (fun g hg => by have := (own_base HO.out hg).1; omega); have hY3 := app_blk hgrow3 KY.out (fun g hg => by have := (own_base HO.out hg).2; omega); have X0 : w3.cell? ⟨w.heap.size, 0, none⟩ = some (.int .i64 yk) := hX3.cell 0 rfl; have X1 : w3.cell? ⟨w.heap.size, 1, none⟩ = some (.int .i64 yd) := hX3.cell 1 rfl; have X2 : w3.cell? ⟨w.heap.size, 2, none⟩ = some (.int .i64 xn) := hX3.cell 2 rfl; have X3 : w3.cell? ⟨w.heap.size, 3, none⟩ = some (.int .i64 xm) := hX3.cell 3 rfl; have X4 : w3.cell? ⟨w.heap.size, 4, none⟩ = some (.int .i64 xp) := hX3.cell 4 rfl; have Y0 : w3.cell? ⟨wr.heap.size, 0, none⟩ = some (.int .i64 yk) := hY3.cell 0 rfl; have Y1 : w3.cell? ⟨wr.heap.size, 1, none⟩ = some (.int .i64 yd) := hY3.cell 1 rfl; have Y2 : w3.cell? ⟨wr.heap.size, 2, none⟩ = some (.int .i64 yn) := hY3.cell 2 rfl; have Y3 : w3.cell? ⟨wr.heap.size, 3, none⟩ = some (.int .i64 ym) := hY3.cell 3 rfl; have Y4 : w3.cell? ⟨wr.heap.size, 4, none⟩ = some (.int .i64 yp) := hY3.cell 4 rfl; have HB3 := Lib.hid (app_below HBY.out HBY.out.size HOY.out (Nat.le_refl _) hgrow3); have zz3 := HB3.out.size))
            go_roundw
            case rel => exact ⟨j + 1, by omega, by go_num, by rw [HG.out], (by
              show World.ownsRow _ _ _ _ _ _ _
              rw [HG.out]
              dsimp only
              rw [List.length_append, cellsL_snoc]
              exact hown3), HB3⟩
            case measure => simp [intOf]; omega
          · have n1 : (yd == xd) = false := by rw [beq_eq_false_iff_ne]; omega
            have n2 : (yd != xd) = true := by rw [bne_iff_ne]; omega
            have n3 : decide (xd ≤ yd) = true := decide_eq_true (by omega)
            have HG : Hid (putF (l.take (j + 1)) ⟨yk, xd, xn, xm, xp⟩ = ((true, (s2 ++ [⟨yk, xd, xn, xm, xp⟩]) ++ [⟨yk, yd, yn, ym, yp⟩]))) := by
              show _ = _
              rw [HT.out]
              unfold putGo
              rw [if_pos (by refine ⟨rfl, ?_⟩; dsimp only; omega)]; dsimp only; rw [if_pos (by omega)]
            clear HT
            go_wp2_with (first
              | (at_builtin; refine wpList_append_own _ rfl (.tmp 42) (.tmp 44) 33 rfl w0.heap.size 43 i0 _ 5 40 Try.underlying33 hi hi0 hi1 hi2 rfl (by decide) _ s2.length _ rfl (HOY.out.alloc _) ⟨wy.heap.size, 0, none⟩ 1 1 [.int .i64 yk, .int .i64 xd, .int .i64 xn, .int .i64 xm, .int .i64 xp] rfl rfl (World.news_of_block (cs := #[.int .i64 yk, .int .i64 xd, .int .i64 xn, .int .i64 xm, .int .i64 xp]) (t := 43) (fr := (0, 0)) (alloc_at (by simp))) (by simp [Value.oneCell']) (by unfold maxLen; omega) (by omega) (by simp; omega) ?_; intro v3 w3 hown3 hgrow3 _; have hX3 := app_blk hgrow3 KXY.out (fun g hg => by have := (own_base HO.out hg).1; omega); have hY3 := app_blk hgrow3 KY.out (fun g hg => by have := (own_base HO.out hg).2; omega); have X0 : w3.cell? ⟨w.heap.size, 0, none⟩ = some (.int .i64 yk) := hX3.cell 0 rfl; have X1 : w3.cell? ⟨w.heap.size, 1, none⟩ = some (.int .i64 xd) := hX3.cell 1 rfl; have X2 : w3.cell? ⟨w.heap.size, 2, none⟩ = some (.int .i64 xn) := hX3.cell 2 rfl; have X3 : w3.cell? ⟨w.heap.size, 3, none⟩ = some (.int .i64 xm) := hX3.cell 3 rfl; have X4 : w3.cell? ⟨w.heap.size, 4, none⟩ = some (.int .i64 xp) := hX3.cell 4 rfl; have Y0 : w3.cell? ⟨wr.heap.size, 0, none⟩ = some (.int .i64 yk) := hY3.cell 0 rfl; have Y1 : w3.cell? ⟨wr.heap.size, 1, none⟩ = some (.int .i64 yd) := hY3.cell 1 rfl; have Y2 : w3.cell? ⟨wr.heap.size, 2, none⟩ = some (.int .i64 yn) := hY3.cell 2 rfl; have Y3 : w3.cell? ⟨wr.heap.size, 3, none⟩ = some (.int .i64 ym) := hY3.cell 3 rfl; have Y4 : w3.cell? ⟨wr.heap.size, 4, none⟩ = some (.int .i64 yp) := hY3.cell 4 rfl; have HB3 := Lib.hid (app_below HBY.out HBY.out.size HOY.out (Nat.le_refl _) hgrow3); have zz3 := HB3.out.size)
              | (at_builtin; refine wpList_append_own _ rfl (.tmp 58) (.tmp 60) 33 rfl w0.heap.size 43 i0 _ 5 40 Try.underlying33 hi hi0 hi1 hi2 rfl (by decide) _ (s2.length + 1) _ rfl (hown3.alloc _) ⟨w3.heap.size, 0, none⟩ 1 1 [.int .i64 yk, .int .i64 yd, .int .i64 yn, .int .i64 ym, .int .i64 yp] rfl rfl (World.news_of_block (cs := #[.int .i64 yk, .int .i64 yd, .int .i64 yn, .int .i64 ym, .int .i64 yp]) (t := 43) (fr := (0, 0)) (alloc_at (by simp))) (by simp [Value.oneCell']) (by unfold maxLen; omega) (by omega) (by simp; omega) ?_; intro v4 w4 hown4 hgrow4 _; have HB4 := Lib.hid (app_below HB3.out HB3.out.size hown3 (Nat.le_refl _) hgrow4)))
            go_roundw
            case rel => exact ⟨j + 1, by omega, by go_num, by rw [HG.out], (by
              show World.ownsRow _ _ _ _ _ _ _
              rw [HG.out]
              dsimp only
              rw [List.length_append, List.length_append, cellsL_snoc, cellsL_snoc]
              exact hown4), HB4⟩
            case measure => simp [intOf]; omega
        · have n1 : (yk == xk) = false := by rw [beq_eq_false_iff_ne]; omega
          have n2 : (yk != xk) = true := by rw [bne_iff_ne]; omega
          have HG : Hid (putF (l.take (j + 1)) ⟨xk, xd, xn, xm, xp⟩ = ((true, (s2 ++ [⟨xk, xd, xn, xm, xp⟩]) ++ [⟨yk, yd, yn, ym, yp⟩]))) := by
            show _ = _
            rw [HT.out]
            unfold putGo
            rw [if_pos (by refine ⟨rfl, ?_⟩; dsimp only; omega)]; dsimp only; rw [if_pos (by omega)]
          clear HT
          go_wp2_with (first
            | (at_builtin; refine wpList_append_own _ rfl (.tmp 42) (.tmp 44) 33 rfl w0.heap.size 43 i0 _ 5 40 Try.underlying33 hi hi0 hi1 hi2 rfl (by decide) _ s2.length _ rfl (HOY.out.alloc _) ⟨wy.heap.size, 0, none⟩ 1 1 [.int .i64 xk, .int .i64 xd, .int .i64 xn, .int .i64 xm, .int .i64 xp] rfl rfl (World.news_of_block (cs := #[.int .i64 xk, .int .i64 xd, .int .i64 xn, .int .i64 xm, .int .i64 xp]) (t := 43) (fr := (0, 0)) (alloc_at (by simp))) (by simp [Value.oneCell']) (by unfold maxLen; omega) (by omega) (by simp; omega) ?_; intro v3 w3 hown3 hgrow3 _; have hX3 := app_blk hgrow3 KXY.out (fun g hg => by have := (own_base HO.out hg).1; omega); have hY3 := app_blk hgrow3 KY.out (fun g hg => by have := (own_base HO.out hg).2; omega); have X0 : w3.cell? ⟨w.heap.size, 0, none⟩ = some (.int .i64 xk) := hX3.cell 0 rfl; have X1 : w3.cell? ⟨w.heap.size, 1, none⟩ = some (.int .i64 xd) := hX3.cell 1 rfl; have X2 : w3.cell? ⟨w.heap.size, 2, none⟩ = some (.int .i64 xn) := hX3.cell 2 rfl; have X3 : w3.cell? ⟨w.heap.size, 3, none⟩ = some (.int .i64 xm) := hX3.cell 3 rfl; have X4 : w3.cell? ⟨w.heap.size, 4, none⟩ = some (.int .i64 xp) := hX3.cell 4 rfl; have Y0 : w3.cell? ⟨wr.heap.size, 0, none⟩ = some (.int .i64 yk) := hY3.cell 0 rfl; have Y1 : w3.cell? ⟨wr.heap.size, 1, none⟩ = some (.int .i64 yd) := hY3.cell 1 rfl; have Y2 : w3.cell? ⟨wr.heap.size, 2, none⟩ = some (.int .i64 yn) := hY3.cell 2 rfl; have Y3 : w3.cell? ⟨wr.heap.size, 3, none⟩ = some (.int .i64 ym) := hY3.cell 3 rfl; have Y4 : w3.cell? ⟨wr.heap.size, 4, none⟩ = some (.int .i64 yp) := hY3.cell 4 rfl; have HB3 := Lib.hid (app_below HBY.out HBY.out.size HOY.out (Nat.le_refl _) hgrow3); have zz3 := HB3.out.size)
            | (at_builtin; refine wpList_append_own _ rfl (.tmp 58) (.tmp 60) 33 rfl w0.heap.size 43 i0 _ 5 40 Try.underlying33 hi hi0 hi1 hi2 rfl (by decide) _ (s2.length + 1) _ rfl (hown3.alloc _) ⟨w3.heap.size, 0, none⟩ 1 1 [.int .i64 yk, .int .i64 yd, .int .i64 yn, .int .i64 ym, .int .i64 yp] rfl rfl (World.news_of_block (cs := #[.int .i64 yk, .int .i64 yd, .int .i64 yn, .int .i64 ym, .int .i64 yp]) (t := 43) (fr := (0, 0)) (alloc_at (by simp))) (by simp [Value.oneCell']) (by unfold maxLen; omega) (by omega) (by simp; omega) ?_; intro v4 w4 hown4 hgrow4 _; have HB4 := Lib.hid (app_below HB3.out HB3.out.size hown3 (Nat.le_refl _) hgrow4)))
          go_roundw
          case rel => exact ⟨j + 1, by omega, by go_num, by rw [HG.out], (by
            show World.ownsRow _ _ _ _ _ _ _
            rw [HG.out]
            dsimp only
            rw [List.length_append, List.length_append, cellsL_snoc, cellsL_snoc]
            exact hown4), HB4⟩
          case measure => simp [intOf]; omega
    · obtain rfl : j = l.length := by omega
      rw [List.take_length] at HO ⊢
      have hlen : (putF l ⟨xk, xd, xn, xm, xp⟩).2.length ≤ 2000 := by
        have h1 := putF_len ⟨xk, xd, xn, xm, xp⟩ l (false, [])
        have h3 : (putF l ⟨xk, xd, xn, xm, xp⟩).2.length ≤ 0 + 2 * l.length := h1
        omega
      obtain ⟨s, hs⟩ : ∃ s, putF l ⟨xk, xd, xn, xm, xp⟩ = s := ⟨_, rfl⟩
      rw [hs] at HO hlen ⊢
      have HS := Lib.hid hs
      obtain ⟨s1, s2⟩ := s
      clear hs
      dsimp only at HO hlen ⊢
      have hz0 : w.heap.size < w0.heap.size := by have := Z0.out; omega
      cases s1 with
      | true =>
        go_wp2_with fail
        go_ret
        rw [HS.out]
        obtain ⟨a', cap', rfl, _, _, _, _, hr⟩ := owned_recs (enc := encF) (size := 5) (fun _ => rfl) HO.out rfl
        exact ⟨a', cap', rfl, hr, HB0.out.trans (HB.out.mono HB0.out.size)⟩
      | false =>
        have x0 : wr.cell? ⟨w.heap.size, 0, none⟩ = some (.int .i64 xk) := (KX.out.after HB.out).cell 0 rfl
        have x1 : wr.cell? ⟨w.heap.size, 1, none⟩ = some (.int .i64 xd) := (KX.out.after HB.out).cell 1 rfl
        have x2 : wr.cell? ⟨w.heap.size, 2, none⟩ = some (.int .i64 xn) := (KX.out.after HB.out).cell 2 rfl
        have x3 : wr.cell? ⟨w.heap.size, 3, none⟩ = some (.int .i64 xm) := (KX.out.after HB.out).cell 3 rfl
        have x4 : wr.cell? ⟨w.heap.size, 4, none⟩ = some (.int .i64 xp) := (KX.out.after HB.out).cell 4 rfl
        go_wp2_with (first
          | (at_builtin; refine wpList_append_own _ rfl (.tmp 64) (.tmp 66) 33 rfl w0.heap.size 43 i0 _ 5 40 Try.underlying33 hi hi0 hi1 hi2 rfl (by decide) _ s2.length _ rfl (HO.out.alloc _) ⟨wr.heap.size, 0, none⟩ 1 1 [.int .i64 xk, .int .i64 xd, .int .i64 xn, .int .i64 xm, .int .i64 xp] rfl rfl (World.news_of_block (cs := #[.int .i64 xk, .int .i64 xd, .int .i64 xn, .int .i64 xm, .int .i64 xp]) (t := 43) (fr := (0, 0)) (alloc_at (by simp))) (by simp [Value.oneCell']) (by unfold maxLen; omega) (by omega) (by simp; omega) ?_; intro v3 w3 hown3 hgrow3 _; have HB3 := Lib.hid (app_below HB.out zr HO.out (Nat.le_refl _) hgrow3)))
        go_ret
        rw [HS.out]
        have hown : w3.ownsRow w0.heap.size 43 5 v3 (s2 ++ [(⟨xk, xd, xn, xm, xp⟩ : Fc)]).length (cellsL encF (s2 ++ [(⟨xk, xd, xn, xm, xp⟩ : Fc)])) := by
          rw [List.length_append, cellsL_snoc]
          exact hown3
        obtain ⟨a', cap', rfl, _, _, _, _, hr⟩ := owned_recs (enc := encF) (size := 5) (fun _ => rfl) hown rfl
        exact ⟨a', cap', rfl, hr, HB0.out.trans (HB3.out.mono HB0.out.size)⟩

end Go.Proofs.Ytfimgdjpnlcckaa
