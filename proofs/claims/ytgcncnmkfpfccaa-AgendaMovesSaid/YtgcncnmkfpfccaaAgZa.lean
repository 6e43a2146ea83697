/- The statement AgendaMoves: the walk. -/
import Derived.Test.YtgcncnmkfpfccaaAgZ
namespace Go.Proofs.Ytgcncnmkfpfccaa
open Go.RowKit Go.Sort Go.Shelf
set_option linter.unusedVariables false
set_option linter.unusedSimpArgs false

/-- Where the item of a number is, as far as it was looked for. -/
def OwnAt (S : List It) (no : Int) (k : Nat) (own : Int) : Prop :=
  (own = -1 ∧ ∀ x ∈ S.take k, x.n ≠ no) ∨ ∃ (o : Nat) (x : It), own = (o : Int) ∧ o < k ∧ S[o]? = some x ∧ x.n = no
theorem OwnAt.same {S : List It} {no : Int} {k : Nat} {own : Int} (h : OwnAt S no k own) {x : It} (hx : S[k]? = some x) (hn : x.n ≠ no) : OwnAt S no (k + 1) own := by
  obtain ⟨hlt, e⟩ := List.getElem?_eq_some_iff.1 hx
  rcases h with ⟨h1, h2⟩ | ⟨o, y, h1, h2, h3⟩
  · refine .inl ⟨h1, fun z hz => ?_⟩
    rw [List.take_succ_eq_append_getElem hlt, e] at hz
    rcases List.mem_append.1 hz with hz | hz
    · exact h2 z hz
    · simp at hz
      rw [hz]
      exact hn
  · exact .inr ⟨o, y, h1, by omega, h3⟩
def kindM (S : List It) (no day : Int) : Prop := True
set_option maxHeartbeats 8000000 in
set_option maxRecDepth 100000 in
theorem moves_law (a : Option Addr) (cap : Nat) (l : List Oq) (no day : Int) (hno : (Lit.int .i64 no).wf = true) (hl : l.length ≤ 9223372036854775807) (w : World) (h : OpsAt w a l) :
    Calls Try.prog 6 #[.slice a l.length cap, .int .i64 no, .int .i64 day] w (TrueEnd w) := by
  have HNoW := Lib.hid hno
  clear hno
  have HR := Lib.hid h
  clear h
  go_enter Try.func6, Try.ntmps6
  go_wp2_with fail
  with_reducible refine (new_x w).mono ?_
  rintro e w1 ⟨B, bm, rfl, hA1, hb1⟩
  have HA1 := Lib.hid hA1
  have HB1 := Lib.hid hb1
  clear hA1 hb1
  by_cases h60 : 60 < l.length
  · have h60' : decide (60 < l.length) = true := decide_eq_true h60
    have h61' : decide (60 < (l.length : Int)) = true := decide_eq_true (by omega)
    clear h60
    go_wp2_with fail
    with_reducible refine (awake_ok11 _).mono ?_
    rintro e w3 ⟨rfl, hb3⟩
    go_wp2_with fail
    go_ret
    exact ⟨rfl, HB1.out.trans (hb3.mono HB1.out.size)⟩
  have h61' : decide (60 < (l.length : Int)) = false := decide_eq_false (by omega)
  have h60' : l.length ≤ 60 := by omega
  clear h60
  go_wp2_with fail
  go_loopw [8] (fun i wr => ∃ j : Nat, j ≤ l.length ∧ i = .int .i64 j ∧ Hid (∃ S N, AgX wr w.heap.size B bm S N (fun _ => False) ∧ S.length ≤ j ∧ N ≤ (j : Int) ∧ Days S) ∧ Hid (Below w.heap.size w wr)) (fun i _ => l.length - (intOf i).toNat)
  case atStart => exact ⟨0, by omega, rfl, ⟨[], 0, HA1.out, by simp, by simp, fun x hx => absurd hx (by simp)⟩, HB1.out⟩
  case round =>
    obtain ⟨j, hj, rfl, HRel, HBr⟩ := hrel
    by_cases hlt : j < l.length
    · have hx := List.getElem?_eq_getElem hlt
      obtain ⟨x, hy⟩ : ∃ x, l[j] = x := ⟨_, rfl⟩
      have hxo : x.Ok := by rw [← hy]; exact HR.out.2 _ (List.getElem_mem _)
      rw [hy] at hx
      have HX := Lib.hid hxo
      have hRr : RecsAt wr a 3 encO l := RowsAt.after HR.out.1 HBr.out
      obtain ⟨b, o, rfl, _⟩ := hRr (by omega)
      obtain ⟨xa, xd, xn⟩ := x
      have t0 : wr.cell? ⟨b, o + j * 3, none⟩ = some (.int .i64 xa) := RecsAt.cell hRr rfl hlt hx (j := 0) rfl
      have t1 : wr.cell? ⟨b, o + j * 3 + 1, none⟩ = some (.int .i64 xd) := RecsAt.cell hRr rfl hlt hx (j := 1) rfl
      have t2 : wr.cell? ⟨b, o + j * 3 + 2, none⟩ = some (.int .i64 xn) := RecsAt.cell hRr rfl hlt hx (j := 2) rfl
      clear hx hRr hy hxo
      have i1 : (0 : Int) ≤ (j : Int) := by omega
      have i2 : (j : Int) < (l.length : Int) := by omega
      obtain ⟨S, N, hA, hS, hN, hD⟩ := HRel.out
      have HC := Lib.hid (does_x xa xd xn HX.out.2.2 (by omega) (by omega) HBr.out.size hA)
      have HS := Lib.hid hS
      have HN := Lib.hid hN
      have HD := Lib.hid (opS_days (N := N) (a := xa) (d := xd) (n := xn) hD hA.ra)
      clear hA hS hN hD
      go_wp2_with fail
      with_reducible refine HC.out.mono ?_
      rintro e w4 ⟨rfl, hA4, _, hb4⟩
      have HRel4 : Hid (∃ S N, AgX w4 w.heap.size B bm S N (fun _ => False) ∧ S.length ≤ j + 1 ∧ N ≤ ((j + 1 : Nat) : Int) ∧ Days S) := ⟨_, _, hA4, by have := opS_len S N xa xd xn; have := HS.out; omega, by have := opN_le N xa xd; have := HN.out; omega, HD.out⟩
      have HB4 := Lib.hid (HBr.out.trans hb4)
      clear HC HS HN HD hA4 hb4 HRel HBr t0 t1 t2
      unfold opR
      go_wp2_with fail
      go_roundw
      case rel => exact ⟨j + 1, by omega, by go_num, HRel4, HB4⟩
      case measure => simp [intOf]; omega
    · obtain rfl : j = l.length := by omega
      obtain ⟨S, N, hA, hS, hN, hD⟩ := HRel.out
      have HD := Lib.hid hD
      have HRa := Lib.hid hA.ra
      have HNos := Lib.hid hA.nos
      have HCi := Lib.hid (items_x hA (by omega))
      have HA2 := Lib.hid hA
      have hS60 : S.length ≤ 60 := by omega
      clear hA hS hN hD HRel
      go_wp2_with fail
      with_reducible refine HCi.out.mono ?_
      rintro e w2 ⟨a2, c2, rfl, hI, hb2, hI2⟩
      have HA3 : Hid (AgX w2 w.heap.size B bm S N (fun b => ∃ x, a2 = some x ∧ x.block = b)) := HA2.out.grow hb2 (fun b ⟨x, hx, e⟩ => .inr (e ▸ hI2 x hx))
      have HI := Lib.hid hI
      have HB2 := Lib.hid (HBr.out.trans (hb2.mono HBr.out.size))
      clear hI hb2 hI2 HA2 HCi HBr
      go_wp2_with fail
      go_loopw [10, 11] (fun ov i wq => ∃ (k : Nat) (own : Int), k ≤ S.length ∧ ov = .int .i64 own ∧ i = .int .i64 k ∧ Hid (OwnAt S no k own) ∧ Hid (wq = w2)) (fun _ i _ => S.length - (intOf i).toNat)
      case atStart => exact ⟨0, -1, by omega, rfl, rfl, .inl ⟨rfl, by simp⟩, rfl⟩
      case round =>
        obtain ⟨k, own, hk, rfl, rfl, HO, hwq⟩ := hrel
        obtain rfl : w2 = wr := hwq.out.symm
        clear hwq
        by_cases hkl : k < S.length
        · obtain ⟨y, hy⟩ : ∃ y, S[k]? = some y := ⟨_, List.getElem?_eq_getElem hkl⟩
          have hI := HI.out
          obtain ⟨b2, o2, rfl, _⟩ := hI (by omega)
          obtain ⟨yd, yn, yt⟩ := y
          have p1 : w2.cell? ⟨b2, o2 + k * 3 + 1, none⟩ = some (.int .i64 yn) := RecsAt.cell hI rfl hkl hy (j := 1) rfl
          have i1 : (0 : Int) ≤ (k : Int) := by omega
          have i2 : (k : Int) < (S.length : Int) := by omega
          by_cases he : yn = no
          · have HO' : Hid (OwnAt S no (k + 1) (k : Int)) := .inr ⟨k, _, rfl, by omega, hy, he⟩
            subst he
            clear hI hy
            go_wp2_with fail
            go_roundw
            case rel => exact ⟨k + 1, k, by omega, rfl, by go_num, HO', by first | exact rfl | exact trivial⟩
            case measure => simp [intOf]; omega
          · have HO' : Hid (OwnAt S no (k + 1) own) := HO.out.same hy he
            have g1 : (yn == no) = false := by rw [beq_eq_false_iff_ne]; exact he
            clear hI hy he
            go_wp2_with fail
            go_roundw
            case rel => exact ⟨k + 1, own, by omega, rfl, by go_num, HO', by first | exact rfl | exact trivial⟩
            case measure => simp [intOf]; omega
        · obtain rfl : k = S.length := by omega
          have HC := Lib.hid (move_x no day HNoW.out (by omega) HB2.out.size HA3.out)
          have hml : (moveS S no day).length ≤ 61 := by have := moveS_len S no day; omega
          obtain ⟨T, hT⟩ : ∃ T, moveS S no day = T := ⟨_, rfl⟩
          obtain ⟨ev, hev⟩ : ∃ ev, moveE S no day = ev := ⟨_, rfl⟩
          rw [hT, hev] at HC
          rw [hT] at hml
          have HT := Lib.hid hT
          have HEv := Lib.hid hev
          clear hT hev
          go_wp2_with fail
          with_reducible refine HC.out.mono ?_
          rintro e w3 ⟨rfl, hE, hk3, hb3⟩
          have hI3 : RecsAt w3 a2 3 encI S := hk3.recs HI.out (fun x hx => ⟨HA3.out.lt ⟨x, hx, rfl⟩, x, hx, rfl⟩)
          have hB3 := HB2.out.trans hb3
          have HA4 := Lib.hid hE
          have HB3 := Lib.hid hB3
          have HI3 := Lib.hid hI3
          have HCi := Lib.hid (items_x hE (by omega))
          clear hE hk3 hb3 hI3 hB3 HC
          go_wp2_with fail
          with_reducible refine HCi.out.mono ?_
          rintro e w4 ⟨a4, c4, rfl, hI4, hb4, hI42⟩
          have HA5 : Hid (AgX w4 w.heap.size B bm T N (fun b => (∃ x, a2 = some x ∧ x.block = b) ∨ ∃ x, a4 = some x ∧ x.block = b)) := HA4.out.grow hb4 (fun b hb => hb.imp id (fun ⟨x, hx, e⟩ => e ▸ hI42 x hx))
          have HN4 := Lib.hid hI4
          have HI4 := Lib.hid (RowsAt.after HI3.out hb4)
          have HB4 := Lib.hid (HB3.out.trans (hb4.mono HB3.out.size))
          clear hI4 hb4 hI42 HA4 HI3 HB3 HCi
          rcases HO.out with ⟨rfl, hnone⟩ | ⟨o, ⟨xd, xn, xt⟩, rfl, ho, hx, hxn⟩
          · have hg : getO S no = none := getO_none.2 (by rw [List.take_length] at hnone; exact hnone)
            obtain rfl : ev = 16 := by rw [← HEv.out]; unfold moveE; rw [hg]; rfl
            obtain rfl : S = T := by rw [← HT.out]; unfold moveS; rw [hg]
            clear hnone hg HO
            go_wp2_with fail
            with_reducible refine (awake_ok11 _).mono ?_
            rintro e w99 ⟨rfl, hb99⟩
            go_wp2_with fail
            go_ret
            exact ⟨rfl, HB4.out.trans (hb99.mono HB4.out.size)⟩
          · dsimp only at hxn
            subst hxn
            have hg : getO S xn = some ⟨xd, xn, xt⟩ := getO_at HNos.out hx
            have j1 : (0 : Int) ≤ (o : Int) := by omega
            have j2 : (o : Int) < (S.length : Int) := by omega
            by_cases hd : dayB day = true
            · obtain ⟨e1, e2, p, hp, e3⟩ := move_there HRa.out HNos.out hx hd
              dsimp only at e1 e2 e3
              obtain rfl : ev = 0 := by rw [← HEv.out]; exact e1
              have hT3 := HT.out.symm.trans e3
              obtain ⟨hTl, hpl⟩ := move_len (y := ⟨day, xn, xt⟩) hx hp
              rw [← hT3] at hTl
              have hBk := move_back HRa.out HNos.out hx hd (HD.out _ (List.mem_of_getElem? hx)) (by dsimp only; rw [HT.out]; exact HA5.out.nos)
              dsimp only at hBk
              rw [HT.out] at hBk
              have HBk := Lib.hid hBk
              have HT3 := Lib.hid hT3
              have HX := Lib.hid hx
              have HP := Lib.hid hp
              have HTl := Lib.hid hTl
              have g1 : decide ((o : Int) < 0) = false := decide_eq_false (by omega)
              rw [hTl]
              clear hBk hT3 hp e1 e2 e3 hg HO hd hx hTl HEv hml
              go_wp2_with fail
              clear g1
              go_loopw [14, 15, 16] (fun kv sv i wq => ∃ (k s r : Nat), r ≤ S.length ∧ kv = .int .i64 k ∧ sv = .int .i64 s ∧ i = .int .i64 r ∧ kM o p r = k ∧ sM p r = s ∧ Hid (Below w4.heap.size w4 wq)) (fun _ _ i _ => S.length - (intOf i).toNat)
              case atStart => exact ⟨0, 0, 0, by omega, rfl, rfl, rfl, (kM_zero o p).1, (kM_zero o p).2, Below.refl _ _⟩
              case round =>
                obtain ⟨k, s, r, hr, rfl, rfl, rfl, hkk, hss, HBq⟩ := hrel
                have hsl := sM_le p r
                have hkl := kM_le o p r
                rw [hss] at hsl
                rw [hkk] at hkl
                by_cases hrl : r < S.length
                · have hI := RowsAt.after HI4.out HBq.out
                  have hN := RowsAt.after HN4.out HBq.out
                  obtain ⟨b2, o2, rfl, _⟩ := hI (by omega)
                  obtain ⟨b4, o4, rfl, _⟩ := hN (by rw [HTl.out]; omega)
                  have i1 : (0 : Int) ≤ (r : Int) := by omega
                  have i2 : (r : Int) < (S.length : Int) := by omega
                  by_cases hrp : r = p
                  · subst hrp
                    have hy : T[r]? = some ⟨day, xn, xt⟩ := by rw [HT3.out]; exact move_one HP.out
                    have t0 : wr.cell? ⟨b4, o4 + r * 3, none⟩ = some (.int .i64 day) := RecsAt.cell hN rfl (by rw [HTl.out]; omega) hy (j := 0) rfl
                    have t1 : wr.cell? ⟨b4, o4 + r * 3 + 1, none⟩ = some (.int .i64 xn) := RecsAt.cell hN rfl (by rw [HTl.out]; omega) hy (j := 1) rfl
                    have t2 : wr.cell? ⟨b4, o4 + r * 3 + 2, none⟩ = some (.int .i64 xt) := RecsAt.cell hN rfl (by rw [HTl.out]; omega) hy (j := 2) rfl
                    have v2 : wr.cell? ⟨b2, o2 + o * 3 + 2, none⟩ = some (.int .i64 xt) := RecsAt.cell hI rfl (by omega) HX.out (j := 2) rfl
                    obtain ⟨n1, n2, n3⟩ := kM_one o r
                    rw [hkk] at n1
                    have hs0 : s = 0 := hss.symm.trans n3
                    subst hs0
                    have N1 := Lib.hid n1
                    have N2 := Lib.hid n2
                    clear hI hN hy n1 n2 n3 hss hkk hsl hkl
                    go_wp2_with (go_quiet (fail))
                    have HBq2 := Lib.hid (HBq.out.trans ((below_draws _ nq).mono HBq.out.size))
                    clear t0 t1 t2 v2
                    go_wp2_with fail
                    go_roundw
                    case rel => exact ⟨k, 1, r + 1, by omega, rfl, by go_num, by go_num, N1.out, N2.out, HBq2.out⟩
                    case measure => simp [intOf]; omega
                  · obtain ⟨⟨zd, zn, zt⟩, k', hz, hzn, hk'l, hk', hkc, hkn, hsn⟩ := move_other (y := ⟨day, xn, xt⟩) HNos.out HX.out HP.out hrl hrp
                    rw [← HT3.out] at hz
                    dsimp only at hzn
                    rw [hkk] at hkc
                    rw [hss] at hsn
                    have t0 : wr.cell? ⟨b4, o4 + r * 3, none⟩ = some (.int .i64 zd) := RecsAt.cell hN rfl (by rw [HTl.out]; omega) hz (j := 0) rfl
                    have t1 : wr.cell? ⟨b4, o4 + r * 3 + 1, none⟩ = some (.int .i64 zn) := RecsAt.cell hN rfl (by rw [HTl.out]; omega) hz (j := 1) rfl
                    have t2 : wr.cell? ⟨b4, o4 + r * 3 + 2, none⟩ = some (.int .i64 zt) := RecsAt.cell hN rfl (by rw [HTl.out]; omega) hz (j := 2) rfl
                    have v0 : wr.cell? ⟨b2, o2 + k' * 3, none⟩ = some (.int .i64 zd) := RecsAt.cell hI rfl hk'l hk' (j := 0) rfl
                    have v1 : wr.cell? ⟨b2, o2 + k' * 3 + 1, none⟩ = some (.int .i64 zn) := RecsAt.cell hI rfl hk'l hk' (j := 1) rfl
                    have v2 : wr.cell? ⟨b2, o2 + k' * 3 + 2, none⟩ = some (.int .i64 zt) := RecsAt.cell hI rfl hk'l hk' (j := 2) rfl
                    have g1 : (zn == xn) = false := by rw [beq_eq_false_iff_ne]; exact hzn
                    have heq := fun w => item_neq zd zn zt zd zn zt w
                    rw [decide_eq_true rfl] at heq
                    have g2 : decide ((S.length : Int) ≤ (k' : Int)) = false := decide_eq_false (by omega)
                    have g3 : decide (S.length ≤ k') = false := decide_eq_false (by omega)
                    have i3 : (0 : Int) ≤ (k' : Int) := by omega
                    have i4 : (k' : Int) < (S.length : Int) := by omega
                    have N1 := Lib.hid hkn
                    have N2 := Lib.hid hsn
                    clear hI hN hz hzn hk' hkn hsn hss hkk hrp
                    rcases hkc with ⟨hne, hk2⟩ | ⟨hko, hk2⟩
                    · subst hk2
                      have g4 : ((k' : Int) == (o : Int)) = false := by rw [beq_eq_false_iff_ne]; omega
                      clear hne
                      go_wp2_with (go_quiet (fail))
                      have HBq2 := Lib.hid (HBq.out.trans ((below_draws _ nq).mono HBq.out.size))
                      clear t0 t1 t2 v0 v1 v2 heq
                      go_wp2_with fail
                      go_roundw
                      case rel => exact ⟨k' + 1, s, r + 1, by omega, by go_num, rfl, by go_num, N1.out, N2.out, HBq2.out⟩
                      case measure => simp [intOf]; omega
                    · subst hko
                      have hw : IntKind.i64.wrap ((k : Int) + 1) = (k' : Int) := by rw [IntWalk.i64_in _ (by omega)]; omega
                      clear hk2
                      go_wp2_with (go_quiet (fail))
                      have HBq2 := Lib.hid (HBq.out.trans ((below_draws _ nq).mono HBq.out.size))
                      clear t0 t1 t2 v0 v1 v2 heq
                      go_wp2_with fail
                      go_roundw
                      case rel => exact ⟨k' + 1, s, r + 1, by omega, by go_num, rfl, by go_num, N1.out, N2.out, HBq2.out⟩
                      case measure => simp [intOf]; omega
                · obtain rfl : r = S.length := by omega
                  have hs1 : s = 1 := by rw [← hss]; exact sM_end hpl
                  subst hs1
                  have hI := RowsAt.after HI4.out HBq.out
                  have hI' := Lib.hid hI
                  have hol := (List.getElem?_eq_some_iff.1 HX.out).1
                  obtain ⟨b2, o2, rfl, _⟩ := hI (by omega)
                  have v0 : wr.cell? ⟨b2, o2 + o * 3, none⟩ = some (.int .i64 xd) := RecsAt.cell hI rfl hol HX.out (j := 0) rfl
                  have HA6 := Lib.hid (HA5.out.after HBq.out)
                  have HBw := Lib.hid (HB4.out.trans (HBq.out.mono HB4.out.size))
                  have HC := Lib.hid (move_x xn xd HNoW.out (by rw [HTl.out]; omega) HBw.out.size HA6.out)
                  rw [HBk.out.1, HBk.out.2] at HC
                  clear hI hss hkk hsl hkl
                  go_wp2_with fail
                  with_reducible refine HC.out.mono ?_
                  rintro e w5 ⟨rfl, hE, hk5, hb5⟩
                  have HI5 := Lib.hid (hk5.recs hI'.out (fun x hx => ⟨HA6.out.lt (.inl ⟨x, hx, rfl⟩), .inl ⟨x, hx, rfl⟩⟩))
                  have HB5 := Lib.hid (HBw.out.trans hb5)
                  have HCi := Lib.hid (items_x hE (by omega))
                  clear hE hk5 hb5 v0 HC HA6 HBw HBq
                  go_wp2_with fail
                  with_reducible refine HCi.out.mono ?_
                  rintro e w6 ⟨a6, c6, rfl, hI6, hb6, _⟩
                  have HN6 := Lib.hid hI6
                  have HI6 := Lib.hid (RowsAt.after HI5.out hb6)
                  have HB6 := Lib.hid (HB5.out.trans (hb6.mono HB5.out.size))
                  clear hI6 hb6 HCi HB5 HI5
                  go_wp2_with fail
                  go_loopw [19] (fun i wq => ∃ r : Nat, r ≤ S.length ∧ i = .int .i64 r ∧ Hid (Below w6.heap.size w6 wq)) (fun i _ => S.length - (intOf i).toNat)
                  case atStart => exact ⟨0, by omega, rfl, Below.refl _ _⟩
                  case round =>
                    obtain ⟨r, hr, rfl, HBq⟩ := hrel
                    by_cases hrl : r < S.length
                    · have hI := RowsAt.after HI6.out HBq.out
                      have hN := RowsAt.after HN6.out HBq.out
                      obtain ⟨b6, o6, rfl, _⟩ := hN (by omega)
                      obtain ⟨⟨zd, zn, zt⟩, hz⟩ : ∃ z, S[r]? = some z := ⟨_, List.getElem?_eq_getElem hrl⟩
                      have t0 : wr.cell? ⟨b6, o6 + r * 3, none⟩ = some (.int .i64 zd) := RecsAt.cell hN rfl hrl hz (j := 0) rfl
                      have t1 : wr.cell? ⟨b6, o6 + r * 3 + 1, none⟩ = some (.int .i64 zn) := RecsAt.cell hN rfl hrl hz (j := 1) rfl
                      have t2 : wr.cell? ⟨b6, o6 + r * 3 + 2, none⟩ = some (.int .i64 zt) := RecsAt.cell hN rfl hrl hz (j := 2) rfl
                      have v0 : wr.cell? ⟨b2, o2 + r * 3, none⟩ = some (.int .i64 zd) := RecsAt.cell hI rfl hrl hz (j := 0) rfl
                      have v1 : wr.cell? ⟨b2, o2 + r * 3 + 1, none⟩ = some (.int .i64 zn) := RecsAt.cell hI rfl hrl hz (j := 1) rfl
                      have v2 : wr.cell? ⟨b2, o2 + r * 3 + 2, none⟩ = some (.int .i64 zt) := RecsAt.cell hI rfl hrl hz (j := 2) rfl
                      have heq := fun w => item_neq zd zn zt zd zn zt w
                      rw [decide_eq_true rfl] at heq
                      have i1 : (0 : Int) ≤ (r : Int) := by omega
                      have i2 : (r : Int) < (S.length : Int) := by omega
                      clear hI hN hz
                      go_wp2_with (go_quiet (fail))
                      have HBq2 := Lib.hid (HBq.out.trans ((below_draws _ nq).mono HBq.out.size))
                      clear t0 t1 t2 v0 v1 v2 heq
                      go_wp2_with fail
                      go_roundw
                      case rel => exact ⟨r + 1, by omega, by go_num, HBq2⟩
                      case measure => simp [intOf]; omega
                    · obtain rfl : r = S.length := by omega
                      have HBw := Lib.hid (HB6.out.trans (HBq.out.mono HB6.out.size))
                      go_wp2_with fail
                      with_reducible refine (awake_ok11 _).mono ?_
                      rintro e w99 ⟨rfl, hb99⟩
                      go_wp2_with fail
                      go_ret
                      exact ⟨rfl, HBw.out.trans (hb99.mono HBw.out.size)⟩
            · obtain rfl : ev = 18 := by rw [← HEv.out]; unfold moveE; rw [hg]; simp [hd]
              obtain rfl : S = T := by rw [← HT.out]; unfold moveS; rw [hg]; simp [hd]
              have g1 : decide ((o : Int) < 0) = false := decide_eq_false (by omega)
              have g2 : decide ((0 : Int) ≤ (o : Int)) = true := decide_eq_true (by omega)
              clear hg hx hd HO
              go_wp2_with fail
              with_reducible refine (awake_ok11 _).mono ?_
              rintro e w99 ⟨rfl, hb99⟩
              go_wp2_with fail
              go_ret
              exact ⟨rfl, HB4.out.trans (hb99.mono HB4.out.size)⟩
end Go.Proofs.Ytgcncnmkfpfccaa
