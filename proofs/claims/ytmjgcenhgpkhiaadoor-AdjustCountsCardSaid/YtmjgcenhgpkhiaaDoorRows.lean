/-
  NARROWER THAN 'FOR EVERY INPUT', by the rows' own cells (each row's printed sentence says how): AdjustEntries: laid · AdjustBooks: laid · AdjustCounts: laid.
  DERIVED. THE GIVEN ROWS OF THIS SEAT. 3 by the template 'for every input the law returns true; each argument reads behind the call as it read before'; 0 by the template 'total and deterministic' (their statements: YtmjgcenhgpkhiaaDoorTotals.lean).
  GIVEN WITH THE SEED: the statements are not yours to turn. If you find one false, say at which input.
  Laid BY PROGRAM, IN A SANDBOX (cutbox-rows.mjs): the forced cells as the released guide's own fill.sh prints them over the translation 7d06f8cf3a398423… (all of the seat's roots in one cut). By AI agents, Wed Nov 11 2026. No macro, syntax, notation, axiom, sorry.
-/
import Derived.Test.YtmjgcenhgpkhiaaDoorChecked
import GoSem.Claim
import GoSem.ClaimJoined
import GoSem.ClaimMapViews
import Derived.JoinedTies
import Derived.KernelRfl
namespace Go.Proofs.YtmjgcenhgpkhiaaDoor
/- THE CELL 'sum', in the pinned program and in every row, IS THE sha256 OF THE DUMP (.gsa) THAT YtmjgcenhgpkhiaaDoorProg.lean LOADS. Nothing in Lean hashes anything: it is a label: what it is worth is what the hold of that sum in a sandbox is worth. -/
noncomputable def Tryd.pinned : Pinned := { name := "ytmjgcenhgpkhiaadoor", sum := "7d06f8cf3a3984237bbe86b8b1a1feca12963e3acac7d3a4cdff4b47b651dc0b", checked := Tryd.checked }
namespace Rows
def none {H : Type} : Left H := { results := [], args := [] }

/- WHAT THE LISTED PACKAGE-LEVEL VARIABLES READ AS WHEN THE CALL BEGINS. Each datum BY PROGRAM (the guide's laid-datum.mjs) off the statement by which the dump's own 'gosem.cut.vars' lays the variable. In a bare row this is a premise. The card (YtmjgcenhgpkhiaaDoorCards.lean) ties it to the program's text. -/
def laid_chattel_entry_rules {H : Type} : DataW H := .iface "func table" (.agg [.agg [.iface "func" (.lit (.string [40, 99, 104, 97, 116, 116, 101, 108, 47, 101, 110, 116, 114, 121, 46, 69, 110, 116, 114, 121, 41, 46, 114, 97, 110, 103, 101, 115])), .lit (.int .i64 10)], .agg [.iface "func" (.lit (.string [40, 99, 104, 97, 116, 116, 101, 108, 47, 101, 110, 116, 114, 121, 46, 69, 110, 116, 114, 121, 41, 46, 108, 105, 110, 101, 115])), .lit (.int .i64 1)], .agg [.iface "func" (.lit (.string [40, 99, 104, 97, 116, 116, 101, 108, 47, 101, 110, 116, 114, 121, 46, 69, 110, 116, 114, 121, 41, 46, 115, 111, 109, 101])), .lit (.int .i64 12)], .agg [.iface "func" (.lit (.string [40, 99, 104, 97, 116, 116, 101, 108, 47, 101, 110, 116, 114, 121, 46, 69, 110, 116, 114, 121, 41, 46, 102, 105, 116, 115])), .lit (.int .i64 11)], .agg [.iface "func" (.lit (.string [40, 99, 104, 97, 116, 116, 101, 108, 47, 101, 110, 116, 114, 121, 46, 69, 110, 116, 114, 121, 41, 46, 101, 118, 101, 110])), .lit (.int .i64 20)]])

/-- 'chattellaw16.AdjustEntries': WHATEVER THE INPUT: true; the input reads as it did. -/
def adjustEntriesSpec : ChangeSpec := { name := "adjustEntries", fn := fun _ => fun
  | [d1, d2, d3] => { results := [.lit (.bool true)], args := [d1, d2, d3] }
  | _ => none }
def adjustEntriesRow : OpenClaim := { program := "ytmjgcenhgpkhiaadoor", sum := "7d06f8cf3a3984237bbe86b8b1a1feca12963e3acac7d3a4cdff4b47b651dc0b", func := "chattel/chattellaw16.AdjustEntries", spec := "adjustEntries", unfollowed := true, recurses := true, named := ["chattel/entry.rules"], plainKeys := false, apart := false, laid := [("chattel/entry.rules", laid_chattel_entry_rules)] }
def AdjustEntriesSaid : Prop := adjustEntriesRow.holds Tryd.pinned (OpenSpec.ofChange adjustEntriesSpec)

/-- ITS FALSE NEIGHBOUR: 'it returns false'. Refute it at one input. -/
def adjustEntriesWrong : ChangeSpec := { name := "adjustEntries", fn := fun _ => fun
  | [d1, d2, d3] => { results := [.lit (.bool false)], args := [d1, d2, d3] }
  | _ => none }
def AdjustEntriesWrongFalsely : Prop := adjustEntriesRow.holds Tryd.pinned (OpenSpec.ofChange adjustEntriesWrong)

/-- 'chattellaw16.AdjustBooks': WHATEVER THE INPUT: true; the input reads as it did. -/
def adjustBooksSpec : ChangeSpec := { name := "adjustBooks", fn := fun _ => fun
  | [d1, d2] => { results := [.lit (.bool true)], args := [d1, d2] }
  | _ => none }
def adjustBooksRow : OpenClaim := { program := "ytmjgcenhgpkhiaadoor", sum := "7d06f8cf3a3984237bbe86b8b1a1feca12963e3acac7d3a4cdff4b47b651dc0b", func := "chattel/chattellaw16.AdjustBooks", spec := "adjustBooks", inPlace := ["maps.clone", "math/bits.Add64"], unfollowed := true, recurses := true, named := ["chattel/entry.rules"], plainKeys := false, apart := false, laid := [("chattel/entry.rules", laid_chattel_entry_rules)] }
def AdjustBooksSaid : Prop := adjustBooksRow.holds Tryd.pinned (OpenSpec.ofChange adjustBooksSpec)

/-- ITS FALSE NEIGHBOUR: 'it returns false'. Refute it at one input. -/
def adjustBooksWrong : ChangeSpec := { name := "adjustBooks", fn := fun _ => fun
  | [d1, d2] => { results := [.lit (.bool false)], args := [d1, d2] }
  | _ => none }
def AdjustBooksWrongFalsely : Prop := adjustBooksRow.holds Tryd.pinned (OpenSpec.ofChange adjustBooksWrong)

/-- 'chattellaw16.AdjustCounts': WHATEVER THE INPUT: true; the input reads as it did. -/
def adjustCountsSpec : ChangeSpec := { name := "adjustCounts", fn := fun _ => fun
  | [d1, d2] => { results := [.lit (.bool true)], args := [d1, d2] }
  | _ => none }
def adjustCountsRow : OpenClaim := { program := "ytmjgcenhgpkhiaadoor", sum := "7d06f8cf3a3984237bbe86b8b1a1feca12963e3acac7d3a4cdff4b47b651dc0b", func := "chattel/chattellaw16.AdjustCounts", spec := "adjustCounts", inPlace := ["maps.clone", "math/bits.Add64"], unfollowed := true, recurses := true, named := ["chattel/entry.rules"], plainKeys := false, apart := false, laid := [("chattel/entry.rules", laid_chattel_entry_rules)] }
def AdjustCountsSaid : Prop := adjustCountsRow.holds Tryd.pinned (OpenSpec.ofChange adjustCountsSpec)

/-- ITS FALSE NEIGHBOUR: 'it returns false'. Refute it at one input. -/
def adjustCountsWrong : ChangeSpec := { name := "adjustCounts", fn := fun _ => fun
  | [d1, d2] => { results := [.lit (.bool false)], args := [d1, d2] }
  | _ => none }
def AdjustCountsWrongFalsely : Prop := adjustCountsRow.holds Tryd.pinned (OpenSpec.ofChange adjustCountsWrong)

/- THE SECOND FORM. 'bulk': how many values and letters a reading holds, each counted each time it is reached (what is shared counts as often as it is met; a slice's spare places count too). A statement '..UptoSaid' is the law's where the arguments, and the package variables that the reading takes, are together of bulk at most 1048576: NARROWER than '..Said'. Prove '..Said' where nothing that the law and all that it calls make is longer than what came in: it says more and counts as full. Else prove '..UptoSaid'. A law counts once. -/
mutual
def uptoBulk {H : Type} : DataW H → Nat
  | .lit (.string bytes) => bytes.length + 1
  | .lit _ => 1
  | .nil => 1
  | .ptr d => uptoBulk d + 1
  | .slice elems spare => uptoBulkAll elems + uptoBulkAll spare + 1
  | .agg parts => uptoBulkAll parts + 1
  | .iface _ d => uptoBulk d + 1
  | .map entries => uptoBulkEntries entries + 1
  | .held _ => 1
def uptoBulkAll {H : Type} : List (DataW H) → Nat
  | [] => 0
  | d :: r => uptoBulk d + uptoBulkAll r
def uptoBulkEntries {H : Type} : List (Lit × DataW H) → Nat
  | [] => 0
  | x :: r => uptoBulkEntry x + uptoBulkEntries r
def uptoBulkEntry {H : Type} : Lit × DataW H → Nat
  | (.string bytes, d) => bytes.length + uptoBulk d + 1
  | (_, d) => uptoBulk d + 1
 end
def uptoSmall : (H : Type) → List (DataW H) → Bool := fun _ ds => decide (uptoBulkAll ds ≤ 1048576)
def OpenSpec.upto (s : _root_.Go.ChangeSpec) : _root_.Go.OpenSpec := { _root_.Go.OpenSpec.ofChange s with cond := some uptoSmall }

/-- 'chattellaw16.AdjustEntries', WHERE WHAT IT READS IS OF BULK AT MOST 1048576: true; the input reads as it did. -/
def adjustEntriesUptoRow : OpenClaim := { program := "ytmjgcenhgpkhiaadoor", sum := "7d06f8cf3a3984237bbe86b8b1a1feca12963e3acac7d3a4cdff4b47b651dc0b", func := "chattel/chattellaw16.AdjustEntries", spec := "adjustEntries", unfollowed := true, recurses := true, named := ["chattel/entry.rules"], plainKeys := false, apart := false, laid := [("chattel/entry.rules", laid_chattel_entry_rules)], narrowed := true }
def AdjustEntriesUptoSaid : Prop := adjustEntriesUptoRow.holds Tryd.pinned (OpenSpec.upto adjustEntriesSpec)

/-- 'chattellaw16.AdjustBooks', WHERE WHAT IT READS IS OF BULK AT MOST 1048576: true; the input reads as it did. -/
def adjustBooksUptoRow : OpenClaim := { program := "ytmjgcenhgpkhiaadoor", sum := "7d06f8cf3a3984237bbe86b8b1a1feca12963e3acac7d3a4cdff4b47b651dc0b", func := "chattel/chattellaw16.AdjustBooks", spec := "adjustBooks", inPlace := ["maps.clone", "math/bits.Add64"], unfollowed := true, recurses := true, named := ["chattel/entry.rules"], plainKeys := false, apart := false, laid := [("chattel/entry.rules", laid_chattel_entry_rules)], narrowed := true }
def AdjustBooksUptoSaid : Prop := adjustBooksUptoRow.holds Tryd.pinned (OpenSpec.upto adjustBooksSpec)

/-- 'chattellaw16.AdjustCounts', WHERE WHAT IT READS IS OF BULK AT MOST 1048576: true; the input reads as it did. -/
def adjustCountsUptoRow : OpenClaim := { program := "ytmjgcenhgpkhiaadoor", sum := "7d06f8cf3a3984237bbe86b8b1a1feca12963e3acac7d3a4cdff4b47b651dc0b", func := "chattel/chattellaw16.AdjustCounts", spec := "adjustCounts", inPlace := ["maps.clone", "math/bits.Add64"], unfollowed := true, recurses := true, named := ["chattel/entry.rules"], plainKeys := false, apart := false, laid := [("chattel/entry.rules", laid_chattel_entry_rules)], narrowed := true }
def AdjustCountsUptoSaid : Prop := adjustCountsUptoRow.holds Tryd.pinned (OpenSpec.upto adjustCountsSpec)

end Rows
end Go.Proofs.YtmjgcenhgpkhiaaDoor
