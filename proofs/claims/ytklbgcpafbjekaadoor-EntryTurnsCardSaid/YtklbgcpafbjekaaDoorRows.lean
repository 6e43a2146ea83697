/-
  NARROWER THAN 'FOR EVERY INPUT', by the rows' own cells (each row's printed sentence says how): EntryChecks: laid · EntryFlows: laid · EntryTurns: laid · EntryTotals: laid · EntrySums: laid.
  DERIVED. THE GIVEN ROWS OF THIS SEAT. 5 by the template 'for every input the law returns true; each argument reads behind the call as it read before'; 0 by the template 'total and deterministic' (their statements: YtklbgcpafbjekaaDoorTotals.lean).
  GIVEN WITH THE SEED: the statements are not yours to turn. If you find one false, say at which input.
  Laid BY PROGRAM, IN A SANDBOX (cutbox-rows.mjs): the forced cells as the released guide's own fill.sh prints them over the translation 77a9e587608165cc… (all of the seat's roots in one cut). By AI agents, Wed Nov 11 2026. No macro, syntax, notation, axiom, sorry.
-/
import Derived.Test.YtklbgcpafbjekaaDoorChecked
import GoSem.Claim
import GoSem.ClaimJoined
import GoSem.ClaimMapViews
import Derived.JoinedTies
import Derived.KernelRfl
namespace Go.Proofs.YtklbgcpafbjekaaDoor
/- THE CELL 'sum', in the pinned program and in every row, IS THE sha256 OF THE DUMP (.gsa) THAT YtklbgcpafbjekaaDoorProg.lean LOADS. Nothing in Lean hashes anything: it is a label: what it is worth is what the hold of that sum in a sandbox is worth. -/
noncomputable def Tryd.pinned : Pinned := { name := "ytklbgcpafbjekaadoor", sum := "77a9e587608165cc5b956e0e2d10fc10ed5f169cdf2c6459b25021b06cef647e", checked := Tryd.checked }
namespace Rows
def none {H : Type} : Left H := { results := [], args := [] }

/- WHAT THE LISTED PACKAGE-LEVEL VARIABLES READ AS WHEN THE CALL BEGINS. Each datum BY PROGRAM (the guide's laid-datum.mjs) off the statement by which the dump's own 'gosem.cut.vars' lays the variable. In a bare row this is a premise. The card (YtklbgcpafbjekaaDoorCards.lean) ties it to the program's text. -/
def laid_chattel_entry_rules {H : Type} : DataW H := .iface "func table" (.agg [.agg [.iface "func" (.lit (.string [40, 99, 104, 97, 116, 116, 101, 108, 47, 101, 110, 116, 114, 121, 46, 69, 110, 116, 114, 121, 41, 46, 114, 97, 110, 103, 101, 115])), .lit (.int .i64 10)], .agg [.iface "func" (.lit (.string [40, 99, 104, 97, 116, 116, 101, 108, 47, 101, 110, 116, 114, 121, 46, 69, 110, 116, 114, 121, 41, 46, 108, 105, 110, 101, 115])), .lit (.int .i64 1)], .agg [.iface "func" (.lit (.string [40, 99, 104, 97, 116, 116, 101, 108, 47, 101, 110, 116, 114, 121, 46, 69, 110, 116, 114, 121, 41, 46, 115, 111, 109, 101])), .lit (.int .i64 12)], .agg [.iface "func" (.lit (.string [40, 99, 104, 97, 116, 116, 101, 108, 47, 101, 110, 116, 114, 121, 46, 69, 110, 116, 114, 121, 41, 46, 102, 105, 116, 115])), .lit (.int .i64 11)], .agg [.iface "func" (.lit (.string [40, 99, 104, 97, 116, 116, 101, 108, 47, 101, 110, 116, 114, 121, 46, 69, 110, 116, 114, 121, 41, 46, 101, 118, 101, 110])), .lit (.int .i64 20)]])

/-- 'chattellaw14.EntryChecks': WHATEVER THE INPUT: true; the input reads as it did. -/
def entryChecksSpec : ChangeSpec := { name := "entryChecks", fn := fun _ => fun
  | [d1, d2] => { results := [.lit (.bool true)], args := [d1, d2] }
  | _ => none }
def entryChecksRow : OpenClaim := { program := "ytklbgcpafbjekaadoor", sum := "77a9e587608165cc5b956e0e2d10fc10ed5f169cdf2c6459b25021b06cef647e", func := "chattel/chattellaw14.EntryChecks", spec := "entryChecks", unfollowed := true, recurses := true, named := ["chattel/entry.rules"], apart := false, laid := [("chattel/entry.rules", laid_chattel_entry_rules)] }
def EntryChecksSaid : Prop := entryChecksRow.holds Tryd.pinned (OpenSpec.ofChange entryChecksSpec)

/-- ITS FALSE NEIGHBOUR: 'it returns false'. Refute it at one input. -/
def entryChecksWrong : ChangeSpec := { name := "entryChecks", fn := fun _ => fun
  | [d1, d2] => { results := [.lit (.bool false)], args := [d1, d2] }
  | _ => none }
def EntryChecksWrongFalsely : Prop := entryChecksRow.holds Tryd.pinned (OpenSpec.ofChange entryChecksWrong)

/-- 'chattellaw14.EntryFlows': WHATEVER THE INPUT: true; the input reads as it did. -/
def entryFlowsSpec : ChangeSpec := { name := "entryFlows", fn := fun _ => fun
  | [d1, d2, d3] => { results := [.lit (.bool true)], args := [d1, d2, d3] }
  | _ => none }
def entryFlowsRow : OpenClaim := { program := "ytklbgcpafbjekaadoor", sum := "77a9e587608165cc5b956e0e2d10fc10ed5f169cdf2c6459b25021b06cef647e", func := "chattel/chattellaw14.EntryFlows", spec := "entryFlows", unfollowed := true, recurses := true, named := ["chattel/entry.rules"], apart := false, laid := [("chattel/entry.rules", laid_chattel_entry_rules)] }
def EntryFlowsSaid : Prop := entryFlowsRow.holds Tryd.pinned (OpenSpec.ofChange entryFlowsSpec)

/-- ITS FALSE NEIGHBOUR: 'it returns false'. Refute it at one input. -/
def entryFlowsWrong : ChangeSpec := { name := "entryFlows", fn := fun _ => fun
  | [d1, d2, d3] => { results := [.lit (.bool false)], args := [d1, d2, d3] }
  | _ => none }
def EntryFlowsWrongFalsely : Prop := entryFlowsRow.holds Tryd.pinned (OpenSpec.ofChange entryFlowsWrong)

/-- 'chattellaw14.EntryTurns': WHATEVER THE INPUT: true; the input reads as it did. -/
def entryTurnsSpec : ChangeSpec := { name := "entryTurns", fn := fun _ => fun
  | [d1, d2, d3] => { results := [.lit (.bool true)], args := [d1, d2, d3] }
  | _ => none }
def entryTurnsRow : OpenClaim := { program := "ytklbgcpafbjekaadoor", sum := "77a9e587608165cc5b956e0e2d10fc10ed5f169cdf2c6459b25021b06cef647e", func := "chattel/chattellaw14.EntryTurns", spec := "entryTurns", inPlace := ["math/bits.Add64"], unfollowed := true, recurses := true, named := ["chattel/entry.rules"], apart := false, laid := [("chattel/entry.rules", laid_chattel_entry_rules)] }
def EntryTurnsSaid : Prop := entryTurnsRow.holds Tryd.pinned (OpenSpec.ofChange entryTurnsSpec)

/-- ITS FALSE NEIGHBOUR: 'it returns false'. Refute it at one input. -/
def entryTurnsWrong : ChangeSpec := { name := "entryTurns", fn := fun _ => fun
  | [d1, d2, d3] => { results := [.lit (.bool false)], args := [d1, d2, d3] }
  | _ => none }
def EntryTurnsWrongFalsely : Prop := entryTurnsRow.holds Tryd.pinned (OpenSpec.ofChange entryTurnsWrong)

/-- 'chattellaw14.EntryTotals': WHATEVER THE INPUT: true; the input reads as it did. -/
def entryTotalsSpec : ChangeSpec := { name := "entryTotals", fn := fun _ => fun
  | [d1, d2, d3] => { results := [.lit (.bool true)], args := [d1, d2, d3] }
  | _ => none }
def entryTotalsRow : OpenClaim := { program := "ytklbgcpafbjekaadoor", sum := "77a9e587608165cc5b956e0e2d10fc10ed5f169cdf2c6459b25021b06cef647e", func := "chattel/chattellaw14.EntryTotals", spec := "entryTotals", inPlace := ["math/bits.Add64"], unfollowed := true, recurses := true, named := ["chattel/entry.rules"], apart := false, laid := [("chattel/entry.rules", laid_chattel_entry_rules)] }
def EntryTotalsSaid : Prop := entryTotalsRow.holds Tryd.pinned (OpenSpec.ofChange entryTotalsSpec)

/-- ITS FALSE NEIGHBOUR: 'it returns false'. Refute it at one input. -/
def entryTotalsWrong : ChangeSpec := { name := "entryTotals", fn := fun _ => fun
  | [d1, d2, d3] => { results := [.lit (.bool false)], args := [d1, d2, d3] }
  | _ => none }
def EntryTotalsWrongFalsely : Prop := entryTotalsRow.holds Tryd.pinned (OpenSpec.ofChange entryTotalsWrong)

/-- 'chattellaw14.EntrySums': WHATEVER THE INPUT: true; the input reads as it did. -/
def entrySumsSpec : ChangeSpec := { name := "entrySums", fn := fun _ => fun
  | [d1, d2, d3] => { results := [.lit (.bool true)], args := [d1, d2, d3] }
  | _ => none }
def entrySumsRow : OpenClaim := { program := "ytklbgcpafbjekaadoor", sum := "77a9e587608165cc5b956e0e2d10fc10ed5f169cdf2c6459b25021b06cef647e", func := "chattel/chattellaw14.EntrySums", spec := "entrySums", inPlace := ["math/bits.Add64"], unfollowed := true, recurses := true, named := ["chattel/entry.rules"], apart := false, laid := [("chattel/entry.rules", laid_chattel_entry_rules)] }
def EntrySumsSaid : Prop := entrySumsRow.holds Tryd.pinned (OpenSpec.ofChange entrySumsSpec)

/-- ITS FALSE NEIGHBOUR: 'it returns false'. Refute it at one input. -/
def entrySumsWrong : ChangeSpec := { name := "entrySums", fn := fun _ => fun
  | [d1, d2, d3] => { results := [.lit (.bool false)], args := [d1, d2, d3] }
  | _ => none }
def EntrySumsWrongFalsely : Prop := entrySumsRow.holds Tryd.pinned (OpenSpec.ofChange entrySumsWrong)

/- THE SECOND FORM. 'bulk': how many values and letters a reading holds, each counted each time it is reached (what is shared counts as often as it is met; a slice's spare places count too). A statement '..UptoSaid' is the law's where the arguments, and the package variables that the reading takes, are together of bulk at most 1048576: NARROWER than '..Said'. Prove '..Said' where nothing that the law and all that it calls make is longer than what came in: it says more and counts as full. Else prove '..UptoSaid'. A law counts once. -/
mutual
def uptoBulk {H : Type} : DataW H → Nat
  | .lit (.string bytes) => bytes.length + 1
  | .lit _ => 1
  | .nil => 1
  | .ptr d => uptoBulk d + 1
  | .slice elems spare => uptoBulkAll elems + uptoBulkAll spare + 1
  | .agg parts => uptoBulkAll parts + 1
  | .iface _ d => uptoBulk d + 1
  | .map entries => uptoBulkEntries entries + 1
  | .held _ => 1
def uptoBulkAll {H : Type} : List (DataW H) → Nat
  | [] => 0
  | d :: r => uptoBulk d + uptoBulkAll r
def uptoBulkEntries {H : Type} : List (Lit × DataW H) → Nat
  | [] => 0
  | x :: r => uptoBulkEntry x + uptoBulkEntries r
def uptoBulkEntry {H : Type} : Lit × DataW H → Nat
  | (.string bytes, d) => bytes.length + uptoBulk d + 1
  | (_, d) => uptoBulk d + 1
 end
def uptoSmall : (H : Type) → List (DataW H) → Bool := fun _ ds => decide (uptoBulkAll ds ≤ 1048576)
def OpenSpec.upto (s : _root_.Go.ChangeSpec) : _root_.Go.OpenSpec := { _root_.Go.OpenSpec.ofChange s with cond := some uptoSmall }

/-- 'chattellaw14.EntryChecks', WHERE WHAT IT READS IS OF BULK AT MOST 1048576: true; the input reads as it did. -/
def entryChecksUptoRow : OpenClaim := { program := "ytklbgcpafbjekaadoor", sum := "77a9e587608165cc5b956e0e2d10fc10ed5f169cdf2c6459b25021b06cef647e", func := "chattel/chattellaw14.EntryChecks", spec := "entryChecks", unfollowed := true, recurses := true, named := ["chattel/entry.rules"], apart := false, laid := [("chattel/entry.rules", laid_chattel_entry_rules)], narrowed := true }
def EntryChecksUptoSaid : Prop := entryChecksUptoRow.holds Tryd.pinned (OpenSpec.upto entryChecksSpec)

/-- 'chattellaw14.EntryFlows', WHERE WHAT IT READS IS OF BULK AT MOST 1048576: true; the input reads as it did. -/
def entryFlowsUptoRow : OpenClaim := { program := "ytklbgcpafbjekaadoor", sum := "77a9e587608165cc5b956e0e2d10fc10ed5f169cdf2c6459b25021b06cef647e", func := "chattel/chattellaw14.EntryFlows", spec := "entryFlows", unfollowed := true, recurses := true, named := ["chattel/entry.rules"], apart := false, laid := [("chattel/entry.rules", laid_chattel_entry_rules)], narrowed := true }
def EntryFlowsUptoSaid : Prop := entryFlowsUptoRow.holds Tryd.pinned (OpenSpec.upto entryFlowsSpec)

/-- 'chattellaw14.EntryTurns', WHERE WHAT IT READS IS OF BULK AT MOST 1048576: true; the input reads as it did. -/
def entryTurnsUptoRow : OpenClaim := { program := "ytklbgcpafbjekaadoor", sum := "77a9e587608165cc5b956e0e2d10fc10ed5f169cdf2c6459b25021b06cef647e", func := "chattel/chattellaw14.EntryTurns", spec := "entryTurns", inPlace := ["math/bits.Add64"], unfollowed := true, recurses := true, named := ["chattel/entry.rules"], apart := false, laid := [("chattel/entry.rules", laid_chattel_entry_rules)], narrowed := true }
def EntryTurnsUptoSaid : Prop := entryTurnsUptoRow.holds Tryd.pinned (OpenSpec.upto entryTurnsSpec)

/-- 'chattellaw14.EntryTotals', WHERE WHAT IT READS IS OF BULK AT MOST 1048576: true; the input reads as it did. -/
def entryTotalsUptoRow : OpenClaim := { program := "ytklbgcpafbjekaadoor", sum := "77a9e587608165cc5b956e0e2d10fc10ed5f169cdf2c6459b25021b06cef647e", func := "chattel/chattellaw14.EntryTotals", spec := "entryTotals", inPlace := ["math/bits.Add64"], unfollowed := true, recurses := true, named := ["chattel/entry.rules"], apart := false, laid := [("chattel/entry.rules", laid_chattel_entry_rules)], narrowed := true }
def EntryTotalsUptoSaid : Prop := entryTotalsUptoRow.holds Tryd.pinned (OpenSpec.upto entryTotalsSpec)

/-- 'chattellaw14.EntrySums', WHERE WHAT IT READS IS OF BULK AT MOST 1048576: true; the input reads as it did. -/
def entrySumsUptoRow : OpenClaim := { program := "ytklbgcpafbjekaadoor", sum := "77a9e587608165cc5b956e0e2d10fc10ed5f169cdf2c6459b25021b06cef647e", func := "chattel/chattellaw14.EntrySums", spec := "entrySums", inPlace := ["math/bits.Add64"], unfollowed := true, recurses := true, named := ["chattel/entry.rules"], apart := false, laid := [("chattel/entry.rules", laid_chattel_entry_rules)], narrowed := true }
def EntrySumsUptoSaid : Prop := entrySumsUptoRow.holds Tryd.pinned (OpenSpec.upto entrySumsSpec)

end Rows
end Go.Proofs.YtklbgcpafbjekaaDoor
