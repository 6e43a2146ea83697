/- Package adjust: Check. -/
import Derived.Test.YtmjgcenhgpkhiaaDoorAdF
import Derived.Test.YtmjgcenhgpkhiaaDoorAdSi
import Derived.Test.YtmjgcenhgpkhiaaDoorMgD
import Derived.Test.YtmjgcenhgpkhiaaDoorMgE
namespace Go.Proofs.YtmjgcenhgpkhiaaDoor
open Go.RowKit Go.Sort Go.Shelf
set_option linter.unusedVariables false
set_option linter.unusedSimpArgs false

def encL (x : Lv) : List Value := [.int .i64 x.no, .int .i64 x.d, .int .i64 x.c, .int .i64 x.a]
def encW (x : Fl) : List Value := [.int .i64 x.d, .int .i64 x.c, .int .i64 x.a]
def encG (x : Cg) : List Value := [.int .i64 x.no, .int .i64 x.d, .int .i64 x.c, .int .i64 x.o, .int .i64 x.n]
theorem encL_one : ∀ x : Lv, ∀ v ∈ encL x, v.oneCell' = true := fun x v hv => by simp [encL] at hv; rcases hv with rfl | rfl | rfl | rfl <;> rfl
theorem encW_one : ∀ x : Fl, ∀ v ∈ encW x, v.oneCell' = true := fun x v hv => by simp [encW] at hv; rcases hv with rfl | rfl | rfl <;> rfl
theorem encG_one : ∀ x : Cg, ∀ v ∈ encG x, v.oneCell' = true := fun x v hv => by simp [encG] at hv; rcases hv with rfl | rfl | rfl | rfl | rfl <;> rfl
theorem infoLv : (Tryd.prog.info? 62).map (fun i => (i.zero, i.size, i.bytes)) = some (some (.agg #[.int .i64 0, .int .i64 0, .int .i64 0, .int .i64 0]), 4, 32) := by kernel_rfl
theorem infoFl : (Tryd.prog.info? 58).map (fun i => (i.zero, i.size, i.bytes)) = some (some (.agg #[.int .i64 0, .int .i64 0, .int .i64 0]), 3, 24) := by kernel_rfl
theorem infoCg : (Tryd.prog.info? 39).map (fun i => (i.zero, i.size, i.bytes)) = some (some (.agg #[.int .i64 0, .int .i64 0, .int .i64 0, .int .i64 0, .int .i64 0]), 5, 40) := by kernel_rfl
/-- A slice whose records are known; of an empty one nothing is known. -/
structure SlG {α : Type} [Inhabited α] (w : World) (size : Nat) (enc : α → List Value) (a : Option Addr) (cap : Nat) (xs : List α) : Prop where
  recs : RecsAt w a size enc xs
  le : xs.length ≤ cap
  max : cap ≤ maxLen
  no : a = none → xs = [] ∧ cap = 0
  sh : xs = [] ∨ ∃ b o, a = some ⟨b, o, none⟩ ∧ b < w.heap.size
theorem SlG.after {α : Type} [Inhabited α] {w w' : World} {size : Nat} {enc : α → List Value} {a : Option Addr} {cap : Nat} {xs : List α} (h : SlG w size enc a cap xs) (hb : RowKit.Below w.heap.size w w') : SlG w' size enc a cap xs :=
  ⟨RowsAt.after h.recs hb, h.le, h.max, h.no, h.sh.imp id fun ⟨b, o, e, hl⟩ => ⟨b, o, e, by have := hb.size; omega⟩⟩
theorem SlAt.g {α : Type} [Inhabited α] {w : World} {size : Nat} {enc : α → List Value} {a : Option Addr} {cap : Nat} {xs : List α} (h : SlAt w size enc a cap xs) : SlG w size enc a cap xs :=
  ⟨h.recs, h.le, h.max, fun e => (by
    rcases h.sh with ⟨_, h1, h2⟩ | ⟨b, o, e1, _⟩
    · exact ⟨h1, h2⟩
    · rw [e1] at e; cases e), h.sh.imp (fun h => h.2.1) id⟩
/-- Numbers as keys. -/
def OkN16 (v : Value) : Prop := ∃ n : Int, v = .int .i64 n ∧ (Lit.int .i64 n).wf = true
theorem keyN16 : KeyLike Tryd.prog 3 OkN16 := KeyLike.ints Tryd.underlying3

section
variable {P : Program} {k e : TypeId} {ok : Value → Prop} {Q : Exit → Act → World → Prop} {a : Act} {w : World} {o : Oper} {B : Nat} {M : List (Value × Value)}
theorem wp_mapstore (m x v : Operand) (t : TypeId) (hop : o.op = Op.mapUpdate t m x v) (K : KeyLike P k ok) (ht : P.underlying t = some (.map k e)) (hm : a.eval m = .map (some B)) (h : MapAt ok w B M) (key val : Value) (hx : a.eval x = key) (hv : a.eval v = val) (hok : ok key)
    {K' : Act → World → Prop} (hK : ∀ w', MapAt ok w' B ((key, val) :: lessKey key M) → w.grownBy w' (some B) → w'.heap.size = w.heap.size → K' (a.put o.dst undef) w') : o.wp P a w K' Q := by
  obtain ⟨w', hrun, r1, r2, r3⟩ := h.store K ht hok val
  unfold Oper.wp
  simp [execOp, hop, hm, hx, hv, hrun, Result.andThen]
  exact hK w' r1 r2 r3
theorem lessKey_map {α : Type} [DecidableEq α] (f : α → Value) (g : α → Value) (hf : ∀ x y, f x = f y → x = y) (k : α) (l : List α) : lessKey (f k) (l.map fun x => (f x, g x)) = (l.filter fun y => decide (y ≠ k)).map fun x => (f x, g x) := by
  unfold lessKey
  rw [List.filter_map]
  congr 1
  refine List.filter_congr fun x _ => ?_
  by_cases h : x = k
  · simp [h]
  · have : f x ≠ f k := fun e => h (hf _ _ e)
    simp [h, this]
end
/-- A set in memory. -/
def setM {α : Type} (f : α → Value) (l : List α) : List (Value × Value) := l.map fun x => (f x, .bool true)
theorem setM_snoc {α : Type} [DecidableEq α] (f : α → Value) (hf : ∀ x y, f x = f y → x = y) (l : List α) (x : α) : setM f (setK (l ++ [x])) = (f x, .bool true) :: lessKey (f x) (setM f (setK l)) := by
  rw [setK_snoc]
  unfold setM
  rw [lessKey_map f (fun _ => .bool true) hf]
  rfl
theorem int_inj (x y : Int) (h : Value.int .i64 x = .int .i64 y) : x = y := by simpa using h

theorem pred_ok (x : Lv) (W : World) : Calls Tryd.prog 48 #[.agg (encL x).toArray] W fun e w' => e = .returned (.bool (decide (x.no < 0))) ∧ Below W.heap.size W w' := by
  obtain ⟨no, d, c, a⟩ := x
  dsimp only [encL]
  go_enter Tryd.func48, Tryd.ntmps48
  go_wp2_with fail
  go_ret
  exact ⟨rfl, (Below.refl _ _).alloc (Nat.le_refl _) _⟩
/-- slices.ContainsFunc of live amounts. -/
theorem cont_ok (g : FuncId) (lb : Array Value) (eg : ∀ args w, (callFunc g args).run Tryd.prog w = .ok (.enter g args) w) (p : Lv → Bool) (a : Option Addr) (cap : Nat) (l : List Lv) (w : World) (h : SlG w 4 encL a cap l)
    (hp : ∀ (W : World) (x : Lv), Below w.heap.size w W → Calls Tryd.prog g (#[.agg (encL x).toArray] ++ lb) W fun e w' => e = .returned (.bool (p x)) ∧ Below w.heap.size w w') (hl : l.length ≤ 1000) :
    Calls Tryd.prog 47 #[.slice a l.length cap, .func (.func g) #[] lb] w fun e w' => e = .returned (.bool (l.any p)) ∧ Below w.heap.size w w' := by
  rcases h.sh with rfl | ⟨b, o, rfl, hb⟩
  · have HC : Hid (Calls Tryd.prog 41 #[.slice a 0 cap, .func (.func g) #[] lb] w fun e w' => e = .returned (.int .i64 (-1)) ∧ w' = w) := by
      show Calls _ _ _ _ _
      clear h hp
      go_enter Tryd.func41, Tryd.ntmps41
      go_wp2_with fail
      go_loopw [8] (fun i wr => i = .int .i64 0 ∧ w = wr) (fun _ _ => 0)
      case atStart => exact ⟨rfl, rfl⟩
      case round =>
        obtain ⟨rfl, rfl⟩ := hrel
        go_wp2_with fail
        go_ret
        exact ⟨rfl, rfl⟩
    clear h hp
    go_enter Tryd.func47, Tryd.ntmps47
    go_wp2_with fail
    with_reducible refine HC.out.mono ?_
    rintro e w1 ⟨rfl, hw1⟩
    obtain rfl := hw1
    go_wp2_with fail
    go_ret
    exact ⟨rfl, Below.refl _ _⟩
  · have hcon := AnyQ.slices_ContainsFunc Tryd.contF 4 Tryd.isAgg62 Tryd.sizeOf62 encL (fun _ => rfl) p g lb eg b o l.length cap l w hp (Nat.le_refl _) (by omega) hb (fun j hj i v hv => RecsAt.cell h.recs rfl hj (x := l[j]!) (by rw [getElem!_pos l j hj, List.getElem?_eq_getElem hj]) hv)
    rw [List.take_length] at hcon
    exact hcon

end Go.Proofs.YtmjgcenhgpkhiaaDoor
