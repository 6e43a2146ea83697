/- slices.Concat over nodes. -/
import Derived.Test.YtglnnllodoljkaaDoorJoinA
namespace Go.Proofs.YtglnnllodoljkaaDoor
open Go.RowKit Go.Shelf
set_option linter.unusedVariables false
set_option linter.unusedSimpArgs false

def Nd.cs (n : Nd) : List Value := [.int .i64 n.op, .int .i64 n.a, .int .i64 n.b, .int .i64 n.num, .int .i64 n.den]
def ndCells (ns : List Nd) : List Value := (ns.map Nd.cs).flatten
theorem ndCells_append (xs ys : List Nd) : ndCells (xs ++ ys) = ndCells xs ++ ndCells ys := by simp [ndCells]
theorem ndCells_len (ns : List Nd) : (ndCells ns).length = ns.length * 5 := by
  induction ns with
  | nil => rfl
  | cons n ns ih =>
    have : ndCells (n :: ns) = n.cs ++ ndCells ns := rfl
    rw [this, List.length_append, ih]
    simp [Nd.cs]
    omega
theorem ndCells_flat (ns : List Nd) : flatF (Nd.row ns) ns.length = ndCells ns := by
  have : ∀ n, n ≤ ns.length → flatF (Nd.row ns) n = ndCells (ns.take n) := by
    intro n
    induction n with
    | zero => intro _; rfl
    | succ n ih =>
      intro hn
      rw [flatF, ih (by omega), List.take_succ_eq_append_getElem (by omega), ndCells_append]
      congr 1
      simp [ndCells, Nd.row, Nd.cs, Nd.at, List.getD_eq_getElem?_getD, List.getElem?_eq_getElem (show n < ns.length by omega)]
  rw [this _ (Nat.le_refl _), List.take_length]
theorem ndCells_one (ns : List Nd) : ∀ u ∈ ndCells ns, u.oneCell' = true := by
  intro u hu
  simp only [ndCells, List.mem_flatten, List.mem_map] at hu
  obtain ⟨l, ⟨n, _, rfl⟩, hu⟩ := hu
  simp only [Nd.cs, List.mem_cons, List.not_mem_nil, or_false] at hu
  rcases hu with rfl | rfl | rfl | rfl | rfl <;> rfl
theorem nds_own {w : World} {base n : Nat} {v : Value} {ns : List Nd} (h : w.ownsRow base 47 5 v n (ndCells ns)) (hn : n = ns.length) :
    ∃ a cap, v = .slice a ns.length cap ∧ (a = none → ns.length = 0 ∧ cap = 0) ∧ ns.length ≤ cap ∧ (∀ x, a = some x → base ≤ x.block ∧ x.block < w.heap.size) ∧ NdsAt w a ns := by
  subst hn
  rw [← ndCells_flat] at h
  obtain ⟨a, cap, h1, h2, h3, _, h4, h5⟩ := owned_rows (f := Nd.row ns) (size := 5) (fun _ => rfl) h
  exact ⟨a, cap, h1, h2, h3, h4, h5⟩

/-- A part. -/
structure Pt where
  a : Option Addr
  cap : Nat
  ns : List Nd
instance : Inhabited Pt := ⟨⟨none, 0, []⟩⟩
def Pt.at (ps : List Pt) (i : Nat) : Pt := ps.getD i default
def ptRow (ps : List Pt) (i : Nat) : List Value := [.slice (Pt.at ps i).a (Pt.at ps i).ns.length (Pt.at ps i).cap]
def PtIn (w : World) (p : Pt) : Prop := NdsAt w p.a p.ns ∧ (p.a = none → p.ns.length = 0 ∧ p.cap = 0) ∧ p.ns.length ≤ p.cap
def PtsAt (w : World) (a : Option Addr) (ps : List Pt) : Prop := RowsAt w a ps.length 1 (ptRow ps) ∧ ∀ i, i < ps.length → PtIn w (Pt.at ps i)
theorem PtsAt.after {w w' : World} {a : Option Addr} {ps : List Pt} (h : PtsAt w a ps) (hb : Below w.heap.size w w') : PtsAt w' a ps := ⟨h.1.after hb, fun i hi => ⟨(h.2 i hi).1.after hb, (h.2 i hi).2⟩⟩
/-- The nodes of parts, one behind the other. -/
def catN (ps : List Pt) : List Nd := (ps.map Pt.ns).flatten
theorem catN_succ (ps : List Pt) (k : Nat) (h : k < ps.length) : catN (ps.take (k + 1)) = catN (ps.take k) ++ (Pt.at ps k).ns := by
  unfold catN Pt.at
  rw [List.take_succ_eq_append_getElem h, List.map_append, List.flatten_append]
  simp [List.getD_eq_getElem?_getD, List.getElem?_eq_getElem h]
theorem catN_le (ps : List Pt) : ∀ k, (catN (ps.take k)).length ≤ (catN ps).length := fun k => by
  have h : ps = ps.take k ++ ps.drop k := (List.take_append_drop k ps).symm
  conv => rhs; rw [h]
  unfold catN
  rw [List.map_append, List.flatten_append, List.length_append]
  omega
theorem part_le (ps : List Pt) (k : Nat) (h : k < ps.length) : (catN (ps.take k)).length + (Pt.at ps k).ns.length ≤ (catN ps).length := by
  have := catN_le ps (k + 1)
  rw [catN_succ ps k h, List.length_append] at this
  exact this

def CatEnd (ns : List Nd) (w : World) (e : Ending) (w' : World) : Prop :=
  ∃ v, e = .returned v ∧ w'.ownsRow w.heap.size 47 5 v ns.length (ndCells ns) ∧ Below w.heap.size w w'

set_option maxHeartbeats 2000000 in
set_option maxRecDepth 100000 in
theorem concat_ok (a : Option Addr) (cap : Nat) (ps : List Pt) (hl : ps.length ≤ 1000000) (hc : (catN ps).length ≤ 1000000) (w : World) (hP : PtsAt w a ps) :
    Calls Tryd.prog 42 #[.slice a ps.length cap] w (CatEnd (catN ps) w) := by
  have HP := Lib.hid hP
  have HC := Lib.hid hc
  obtain ⟨i0, hi, hz0, hz1, hz2⟩ := info_parts infoNode
  have HG := Lib.hid (fun n hn w => grow_ok n hn w)
  clear hP hc
  go_enter Tryd.func42, Tryd.ntmps42
  go_wp2_with fail
  go_loopw [3, 11] (fun s c wr => ∃ k : Nat, k ≤ ps.length ∧ c = .int .i64 (k : Int) ∧ s = .int .i64 ((catN (ps.take k)).length : Int) ∧ wr = w) (fun _ c _ => ps.length - (intOf c).toNat)
  case atStart => exact ⟨0, by omega, by simp, by simp [catN], rfl⟩
  case round =>
    obtain ⟨k, hk, rfl, rfl, rfl⟩ := hrel
    by_cases hlt : k < ps.length
    · have hlt' : (k : Int) < (ps.length : Int) := by omega
      obtain ⟨b, o, rfl, hc⟩ := HP.out.1 (by omega)
      have c0 : wr.cell? ⟨b, o + k, none⟩ = some (.slice (Pt.at ps k).a (Pt.at ps k).ns.length (Pt.at ps k).cap) := by
        have := hc k hlt 0 _ rfl
        rwa [Nat.mul_one, Nat.add_zero] at this
      have hp := part_le ps k hlt
      have hs := Lib.hid (catN_succ ps k hlt)
      have hcc := HC.out
      obtain ⟨x, hx⟩ : ∃ x, (Pt.at ps k).ns.length = x := ⟨_, rfl⟩
      have hsl : Hid ((catN (ps.take (k + 1))).length = (catN (ps.take k)).length + x) := by show _ = _; rw [hs.out, List.length_append, hx]
      rw [hx] at c0 hp
      obtain ⟨y, hy⟩ : ∃ x, (catN (ps.take k)).length = x := ⟨_, rfl⟩
      rw [hy] at hp hsl ⊢
      have hwy : IntKind.i64.wrap ((y : Int) + (x : Int)) = (y : Int) + (x : Int) := IntWalk.i64_in _ (by omega)
      have hny : ¬ (y : Int) + (x : Int) < 0 := by omega
      have hnz : 0 ≤ (y : Int) + (x : Int) := by omega
      have hwk : IntKind.i64.wrap ((k : Int) + 1) = (k : Int) + 1 := IntWalk.i64_in _ (by omega)
      have HLT := Lib.hid hlt
      clear hc hp hcc hlt hx hy hs
      go_wp2_with fail
      go_roundw
      case rel => exact ⟨k + 1, by have := HLT.out; omega, by go_num, by rw [hsl.out]; push_cast; rfl, by first | rfl | trivial⟩
      case measure => have := HLT.out; simp [intOf]; omega
    · obtain rfl : k = ps.length := by omega
      rw [List.take_length]
      have HGG := Lib.hid (HG.out _ HC.out wr)
      go_wp2_with fail
      with_reducible refine HGG.out.mono ?_
      rintro e w1 ⟨v, rfl, hown, hb1⟩
      have HO1 := Lib.hid hown
      have HB1 := Lib.hid hb1
      clear HGG hown hb1
      go_wp2_with fail
      obtain ⟨w0, hw0⟩ : ∃ w0, wr = w0 := ⟨_, rfl⟩
      rw [hw0] at HP HO1 HB1
      go_loopw [6, 27] (fun v c wl => ∃ k : Nat, k ≤ ps.length ∧ c = .int .i64 (k : Int) ∧ wl.ownsRow w0.heap.size 47 5 v (catN (ps.take k)).length (ndCells (catN (ps.take k))) ∧ Below w0.heap.size w0 wl) (fun _ c _ => ps.length - (intOf c).toNat)
      case atStart => exact ⟨0, by omega, by simp, by simpa [catN, ndCells] using HO1.out, HB1.out⟩
      case round =>
        obtain ⟨k, hk, rfl, hown, hbl⟩ := hrel
        by_cases hlt : k < ps.length
        · have hlt' : (k : Int) < (ps.length : Int) := by omega
          have hPl := HP.out.after hbl
          obtain ⟨b, o, rfl, hc⟩ := hPl.1 (by omega)
          have c0 : wr.cell? ⟨b, o + k, none⟩ = some (.slice (Pt.at ps k).a (Pt.at ps k).ns.length (Pt.at ps k).cap) := by
            have := hc k hlt 0 _ rfl
            rwa [Nat.mul_one, Nat.add_zero] at this
          have hp := part_le ps k hlt
          have hs := Lib.hid (catN_succ ps k hlt)
          obtain ⟨q1, q2, q3⟩ := hPl.2 k hlt
          obtain ⟨⟨pa, pc, pn⟩, hpp⟩ : ∃ p, Pt.at ps k = p := ⟨_, rfl⟩
          rw [hpp] at c0 hp hs q1 q2 q3
          dsimp only at c0 hp hs q1 q2 q3
          have hcc := HC.out
          have hwk : IntKind.i64.wrap ((k : Int) + 1) = (k : Int) + 1 := IntWalk.i64_in _ (by omega)
          have HLT := Lib.hid hlt
          have HO := Lib.hid hown
          have HBL := Lib.hid hbl
          have HQ := Lib.hid q1
          have zB := hbl.size
          clear hc hPl hown hbl q1 hpp hlt
          cases pa with
          | none =>
            obtain ⟨q4, rfl⟩ := q2 rfl
            obtain rfl : pn = [] := List.length_eq_zero_iff.1 q4
            have hl0 : (([] : List Nd).length) = 0 := rfl
            rw [hl0] at c0
            have hcat : Hid (catN (ps.take (k + 1)) = catN (ps.take k)) := by show _ = _; rw [hs.out, List.append_nil]
            clear q2 q3 q4 hp hs
            go_wp2_with (at_builtin; refine wpList_append_own_none rfl _ _ 22 rfl w0.heap.size 47 i0 5 Tryd.underlying22 hi _ (catN (ps.take k)).length _ rfl HO.out rfl ?_)
            go_roundw
            case rel => exact ⟨k + 1, by have := HLT.out; omega, by go_num, by rw [hcat.out]; exact HO.out, HBL.out⟩
            case measure => have := HLT.out; simp [intOf]; omega
          | some x =>
            obtain ⟨L, hL⟩ : ∃ L, pn.length = L := ⟨_, rfl⟩
            rw [hL] at c0 hp
            have HL := Lib.hid hL
            clear q2 q3 hL
            go_wp2_with (at_builtin; refine wpList_append_own _ rfl _ _ 22 rfl w0.heap.size 47 i0 _ 5 40 Tryd.underlying22 hi hz0 hz1 hz2 rfl (by decide) _ (catN (ps.take k)).length _ rfl HO.out x L pc (ndCells pn) rfl (by rw [ndCells_len, HL.out]) (fun j u hj => RowsAt.cells (f := Nd.row pn) HQ.out (fun _ => rfl) rfl j u (by rw [ndCells_flat]; exact hj)) (ndCells_one pn) (by unfold maxLen; omega) (by omega) (by omega) ?_; intro v' w3 hown' hgrow _)
            have HBN := Lib.hid (HBL.out.grown hgrow zB (fun q e => (owned_parts HO.out).elim fun a h => h.elim fun cap h => by
              obtain ⟨e1, _, _, _, h5, _⟩ := h
              subst e1
              cases a with
              | none => cases e
              | some y => cases e; exact (h5 _ rfl).1))
            have HON : Hid (w3.ownsRow w0.heap.size 47 5 v' (catN (ps.take (k + 1))).length (ndCells (catN (ps.take (k + 1))))) := by
              show w3.ownsRow _ _ _ _ _ _
              rw [hs.out, List.length_append, ndCells_append, HL.out]
              exact hown'
            clear hown' hgrow hp hs
            go_wp2_with fail
            go_roundw
            case rel => exact ⟨k + 1, by have := HLT.out; omega, by go_num, HON.out, HBN.out⟩
            case measure => have := HLT.out; simp [intOf]; omega
        · obtain rfl : k = ps.length := by omega
          rw [List.take_length] at hown
          have HO := Lib.hid hown
          have HBL := Lib.hid hbl
          clear hown hbl
          go_wp2_with fail
          go_ret
          subst hw0
          exact ⟨_, rfl, HO.out, HBL.out⟩

end Go.Proofs.YtglnnllodoljkaaDoor
