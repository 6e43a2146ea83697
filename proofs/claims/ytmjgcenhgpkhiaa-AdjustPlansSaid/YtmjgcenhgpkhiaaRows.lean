/-
  No cell of these rows narrows 'for every input' (looked for: loops, veiled, ifaces, maps, wideKeys, modest, calm, conditions, laid).
  DERIVED. THE GIVEN ROWS OF THIS SEAT. 4 by the template 'for every input the law returns true; each argument reads behind the call as it read before'; 0 by the template 'total and deterministic' (their statements: YtmjgcenhgpkhiaaTotals.lean).
  GIVEN WITH THE SEED: the statements are not yours to turn. If you find one false, say at which input.
  Laid BY PROGRAM, IN A SANDBOX (cutbox-rows.mjs): the forced cells as the released guide's own fill.sh prints them over the translation d8062edb620351e1… (all of the seat's roots in one cut). By AI agents, Wed Nov 11 2026. No macro, syntax, notation, axiom, sorry.
-/
import Derived.Test.YtmjgcenhgpkhiaaChecked
import GoSem.Claim
import GoSem.ClaimJoined
import GoSem.ClaimMapViews
import Derived.JoinedTies
import Derived.KernelRfl
namespace Go.Proofs.Ytmjgcenhgpkhiaa
/- THE CELL 'sum', in the pinned program and in every row, IS THE sha256 OF THE DUMP (.gsa) THAT YtmjgcenhgpkhiaaProg.lean LOADS. Nothing in Lean hashes anything: it is a label: what it is worth is what the hold of that sum in a sandbox is worth. -/
noncomputable def Try.pinned : Pinned := { name := "ytmjgcenhgpkhiaa", sum := "d8062edb620351e11205e68a648a57dd70a10af4da2b9cff089108fc66c9029a", checked := Try.checked }
namespace Rows
def none {H : Type} : Left H := { results := [], args := [] }

/-- 'chattellaw16.AdjustPlans': WHATEVER THE INPUT: true; the input reads as it did. -/
def adjustPlansSpec : ChangeSpec := { name := "adjustPlans", fn := fun _ => fun
  | [d1, d2] => { results := [.lit (.bool true)], args := [d1, d2] }
  | _ => none }
def adjustPlansRow : OpenClaim := { program := "ytmjgcenhgpkhiaa", sum := "d8062edb620351e11205e68a648a57dd70a10af4da2b9cff089108fc66c9029a", func := "chattel/chattellaw16.AdjustPlans", spec := "adjustPlans", unfollowed := true, recurses := true, plainKeys := false, apart := false }
def AdjustPlansSaid : Prop := adjustPlansRow.holds Try.pinned (OpenSpec.ofChange adjustPlansSpec)

/-- ITS FALSE NEIGHBOUR: 'it returns false'. Refute it at one input. -/
def adjustPlansWrong : ChangeSpec := { name := "adjustPlans", fn := fun _ => fun
  | [d1, d2] => { results := [.lit (.bool false)], args := [d1, d2] }
  | _ => none }
def AdjustPlansWrongFalsely : Prop := adjustPlansRow.holds Try.pinned (OpenSpec.ofChange adjustPlansWrong)

/-- 'chattellaw16.AdjustApart': WHATEVER THE INPUT: true; the input reads as it did. -/
def adjustApartSpec : ChangeSpec := { name := "adjustApart", fn := fun _ => fun
  | [d1, d2, d3] => { results := [.lit (.bool true)], args := [d1, d2, d3] }
  | _ => none }
def adjustApartRow : OpenClaim := { program := "ytmjgcenhgpkhiaa", sum := "d8062edb620351e11205e68a648a57dd70a10af4da2b9cff089108fc66c9029a", func := "chattel/chattellaw16.AdjustApart", spec := "adjustApart", unfollowed := true, recurses := true, plainKeys := false, apart := false }
def AdjustApartSaid : Prop := adjustApartRow.holds Try.pinned (OpenSpec.ofChange adjustApartSpec)

/-- ITS FALSE NEIGHBOUR: 'it returns false'. Refute it at one input. -/
def adjustApartWrong : ChangeSpec := { name := "adjustApart", fn := fun _ => fun
  | [d1, d2, d3] => { results := [.lit (.bool false)], args := [d1, d2, d3] }
  | _ => none }
def AdjustApartWrongFalsely : Prop := adjustApartRow.holds Try.pinned (OpenSpec.ofChange adjustApartWrong)

/-- 'chattellaw16.AdjustBack': WHATEVER THE INPUT: true; the input reads as it did. -/
def adjustBackSpec : ChangeSpec := { name := "adjustBack", fn := fun _ => fun
  | [d1, d2] => { results := [.lit (.bool true)], args := [d1, d2] }
  | _ => none }
def adjustBackRow : OpenClaim := { program := "ytmjgcenhgpkhiaa", sum := "d8062edb620351e11205e68a648a57dd70a10af4da2b9cff089108fc66c9029a", func := "chattel/chattellaw16.AdjustBack", spec := "adjustBack", unfollowed := true, recurses := true, plainKeys := false, apart := false }
def AdjustBackSaid : Prop := adjustBackRow.holds Try.pinned (OpenSpec.ofChange adjustBackSpec)

/-- ITS FALSE NEIGHBOUR: 'it returns false'. Refute it at one input. -/
def adjustBackWrong : ChangeSpec := { name := "adjustBack", fn := fun _ => fun
  | [d1, d2] => { results := [.lit (.bool false)], args := [d1, d2] }
  | _ => none }
def AdjustBackWrongFalsely : Prop := adjustBackRow.holds Try.pinned (OpenSpec.ofChange adjustBackWrong)

/-- 'chattellaw16.AdjustTurns': WHATEVER THE INPUT: true; the input reads as it did. -/
def adjustTurnsSpec : ChangeSpec := { name := "adjustTurns", fn := fun _ => fun
  | [d1, d2, d3] => { results := [.lit (.bool true)], args := [d1, d2, d3] }
  | _ => none }
def adjustTurnsRow : OpenClaim := { program := "ytmjgcenhgpkhiaa", sum := "d8062edb620351e11205e68a648a57dd70a10af4da2b9cff089108fc66c9029a", func := "chattel/chattellaw16.AdjustTurns", spec := "adjustTurns", unfollowed := true, recurses := true, plainKeys := false, apart := false }
def AdjustTurnsSaid : Prop := adjustTurnsRow.holds Try.pinned (OpenSpec.ofChange adjustTurnsSpec)

/-- ITS FALSE NEIGHBOUR: 'it returns false'. Refute it at one input. -/
def adjustTurnsWrong : ChangeSpec := { name := "adjustTurns", fn := fun _ => fun
  | [d1, d2, d3] => { results := [.lit (.bool false)], args := [d1, d2, d3] }
  | _ => none }
def AdjustTurnsWrongFalsely : Prop := adjustTurnsRow.holds Try.pinned (OpenSpec.ofChange adjustTurnsWrong)

/- THE SECOND FORM. 'bulk': how many values and letters a reading holds, each counted each time it is reached (what is shared counts as often as it is met; a slice's spare places count too). A statement '..UptoSaid' is the law's where the arguments, and the package variables that the reading takes, are together of bulk at most 1048576: NARROWER than '..Said'. Prove '..Said' where nothing that the law and all that it calls make is longer than what came in: it says more and counts as full. Else prove '..UptoSaid'. A law counts once. -/
mutual
def uptoBulk {H : Type} : DataW H → Nat
  | .lit (.string bytes) => bytes.length + 1
  | .lit _ => 1
  | .nil => 1
  | .ptr d => uptoBulk d + 1
  | .slice elems spare => uptoBulkAll elems + uptoBulkAll spare + 1
  | .agg parts => uptoBulkAll parts + 1
  | .iface _ d => uptoBulk d + 1
  | .map entries => uptoBulkEntries entries + 1
  | .held _ => 1
def uptoBulkAll {H : Type} : List (DataW H) → Nat
  | [] => 0
  | d :: r => uptoBulk d + uptoBulkAll r
def uptoBulkEntries {H : Type} : List (Lit × DataW H) → Nat
  | [] => 0
  | x :: r => uptoBulkEntry x + uptoBulkEntries r
def uptoBulkEntry {H : Type} : Lit × DataW H → Nat
  | (.string bytes, d) => bytes.length + uptoBulk d + 1
  | (_, d) => uptoBulk d + 1
 end
def uptoSmall : (H : Type) → List (DataW H) → Bool := fun _ ds => decide (uptoBulkAll ds ≤ 1048576)
def OpenSpec.upto (s : _root_.Go.ChangeSpec) : _root_.Go.OpenSpec := { _root_.Go.OpenSpec.ofChange s with cond := some uptoSmall }

/-- 'chattellaw16.AdjustPlans', WHERE WHAT IT READS IS OF BULK AT MOST 1048576: true; the input reads as it did. -/
def adjustPlansUptoRow : OpenClaim := { program := "ytmjgcenhgpkhiaa", sum := "d8062edb620351e11205e68a648a57dd70a10af4da2b9cff089108fc66c9029a", func := "chattel/chattellaw16.AdjustPlans", spec := "adjustPlans", unfollowed := true, recurses := true, plainKeys := false, apart := false, narrowed := true }
def AdjustPlansUptoSaid : Prop := adjustPlansUptoRow.holds Try.pinned (OpenSpec.upto adjustPlansSpec)

/-- 'chattellaw16.AdjustApart', WHERE WHAT IT READS IS OF BULK AT MOST 1048576: true; the input reads as it did. -/
def adjustApartUptoRow : OpenClaim := { program := "ytmjgcenhgpkhiaa", sum := "d8062edb620351e11205e68a648a57dd70a10af4da2b9cff089108fc66c9029a", func := "chattel/chattellaw16.AdjustApart", spec := "adjustApart", unfollowed := true, recurses := true, plainKeys := false, apart := false, narrowed := true }
def AdjustApartUptoSaid : Prop := adjustApartUptoRow.holds Try.pinned (OpenSpec.upto adjustApartSpec)

/-- 'chattellaw16.AdjustBack', WHERE WHAT IT READS IS OF BULK AT MOST 1048576: true; the input reads as it did. -/
def adjustBackUptoRow : OpenClaim := { program := "ytmjgcenhgpkhiaa", sum := "d8062edb620351e11205e68a648a57dd70a10af4da2b9cff089108fc66c9029a", func := "chattel/chattellaw16.AdjustBack", spec := "adjustBack", unfollowed := true, recurses := true, plainKeys := false, apart := false, narrowed := true }
def AdjustBackUptoSaid : Prop := adjustBackUptoRow.holds Try.pinned (OpenSpec.upto adjustBackSpec)

/-- 'chattellaw16.AdjustTurns', WHERE WHAT IT READS IS OF BULK AT MOST 1048576: true; the input reads as it did. -/
def adjustTurnsUptoRow : OpenClaim := { program := "ytmjgcenhgpkhiaa", sum := "d8062edb620351e11205e68a648a57dd70a10af4da2b9cff089108fc66c9029a", func := "chattel/chattellaw16.AdjustTurns", spec := "adjustTurns", unfollowed := true, recurses := true, plainKeys := false, apart := false, narrowed := true }
def AdjustTurnsUptoSaid : Prop := adjustTurnsUptoRow.holds Try.pinned (OpenSpec.upto adjustTurnsSpec)

end Rows
end Go.Proofs.Ytmjgcenhgpkhiaa
