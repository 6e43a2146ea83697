/-
  NARROWER THAN 'FOR EVERY INPUT', by the rows' own cells (each row's printed sentence says how): LedgerSums: laid · LedgerNil: laid · LedgerParts: laid · LedgerReplays: laid · LedgerEven: laid · LedgerPlays: laid.
  DERIVED. THE GIVEN ROWS OF THIS SEAT. 6 by the template 'for every input the law returns true; each argument reads behind the call as it read before'; 0 by the template 'total and deterministic' (their statements: YtpinhomalmknjaaDoorTotals.lean).
  GIVEN WITH THE SEED: the statements are not yours to turn. If you find one false, say at which input.
  Laid BY PROGRAM, IN A SANDBOX (cutbox-rows.mjs): the forced cells as the released guide's own fill.sh prints them over the translation bc467c2d665d80ef… (all of the seat's roots in one cut). By AI agents, Wed Nov 11 2026. No macro, syntax, notation, axiom, sorry.
-/
import Derived.Test.YtpinhomalmknjaaDoorChecked
import GoSem.Claim
import GoSem.ClaimJoined
import GoSem.ClaimMapViews
import Derived.JoinedTies
import Derived.KernelRfl
namespace Go.Proofs.YtpinhomalmknjaaDoor
/- THE CELL 'sum', in the pinned program and in every row, IS THE sha256 OF THE DUMP (.gsa) THAT YtpinhomalmknjaaDoorProg.lean LOADS. Nothing in Lean hashes anything: it is a label: what it is worth is what the hold of that sum in a sandbox is worth. -/
noncomputable def Tryd.pinned : Pinned := { name := "ytpinhomalmknjaadoor", sum := "bc467c2d665d80ef49e1026760e7906cc2d5b0dd7d38a803a9f8227ef9bcefd2", checked := Tryd.checked }
namespace Rows
def none {H : Type} : Left H := { results := [], args := [] }

/- WHAT THE LISTED PACKAGE-LEVEL VARIABLES READ AS WHEN THE CALL BEGINS. Each datum BY PROGRAM (the guide's laid-datum.mjs) off the statement by which the dump's own 'gosem.cut.vars' lays the variable. In a bare row this is a premise. The card (YtpinhomalmknjaaDoorCards.lean) ties it to the program's text. -/
def laid_chattel_entry_rules {H : Type} : DataW H := .iface "func table" (.agg [.agg [.iface "func" (.lit (.string [40, 99, 104, 97, 116, 116, 101, 108, 47, 101, 110, 116, 114, 121, 46, 69, 110, 116, 114, 121, 41, 46, 114, 97, 110, 103, 101, 115])), .lit (.int .i64 10)], .agg [.iface "func" (.lit (.string [40, 99, 104, 97, 116, 116, 101, 108, 47, 101, 110, 116, 114, 121, 46, 69, 110, 116, 114, 121, 41, 46, 108, 105, 110, 101, 115])), .lit (.int .i64 1)], .agg [.iface "func" (.lit (.string [40, 99, 104, 97, 116, 116, 101, 108, 47, 101, 110, 116, 114, 121, 46, 69, 110, 116, 114, 121, 41, 46, 115, 111, 109, 101])), .lit (.int .i64 12)], .agg [.iface "func" (.lit (.string [40, 99, 104, 97, 116, 116, 101, 108, 47, 101, 110, 116, 114, 121, 46, 69, 110, 116, 114, 121, 41, 46, 102, 105, 116, 115])), .lit (.int .i64 11)], .agg [.iface "func" (.lit (.string [40, 99, 104, 97, 116, 116, 101, 108, 47, 101, 110, 116, 114, 121, 46, 69, 110, 116, 114, 121, 41, 46, 101, 118, 101, 110])), .lit (.int .i64 20)]])

/-- 'chattellaw15.LedgerSums': WHATEVER THE INPUT: true; the input reads as it did. -/
def ledgerSumsSpec : ChangeSpec := { name := "ledgerSums", fn := fun _ => fun
  | [d1, d2, d3] => { results := [.lit (.bool true)], args := [d1, d2, d3] }
  | _ => none }
def ledgerSumsRow : OpenClaim := { program := "ytpinhomalmknjaadoor", sum := "bc467c2d665d80ef49e1026760e7906cc2d5b0dd7d38a803a9f8227ef9bcefd2", func := "chattel/chattellaw15.LedgerSums", spec := "ledgerSums", inPlace := ["maps.clone", "math/bits.Add64"], unfollowed := true, recurses := true, named := ["chattel/entry.rules"], apart := false, laid := [("chattel/entry.rules", laid_chattel_entry_rules)] }
def LedgerSumsSaid : Prop := ledgerSumsRow.holds Tryd.pinned (OpenSpec.ofChange ledgerSumsSpec)

/-- ITS FALSE NEIGHBOUR: 'it returns false'. Refute it at one input. -/
def ledgerSumsWrong : ChangeSpec := { name := "ledgerSums", fn := fun _ => fun
  | [d1, d2, d3] => { results := [.lit (.bool false)], args := [d1, d2, d3] }
  | _ => none }
def LedgerSumsWrongFalsely : Prop := ledgerSumsRow.holds Tryd.pinned (OpenSpec.ofChange ledgerSumsWrong)

/-- 'chattellaw15.LedgerNil': WHATEVER THE INPUT: true; the input reads as it did. -/
def ledgerNilSpec : ChangeSpec := { name := "ledgerNil", fn := fun _ => fun
  | [d1, d2] => { results := [.lit (.bool true)], args := [d1, d2] }
  | _ => none }
def ledgerNilRow : OpenClaim := { program := "ytpinhomalmknjaadoor", sum := "bc467c2d665d80ef49e1026760e7906cc2d5b0dd7d38a803a9f8227ef9bcefd2", func := "chattel/chattellaw15.LedgerNil", spec := "ledgerNil", inPlace := ["maps.clone", "math/bits.Add64"], unfollowed := true, recurses := true, named := ["chattel/entry.rules"], apart := false, laid := [("chattel/entry.rules", laid_chattel_entry_rules)] }
def LedgerNilSaid : Prop := ledgerNilRow.holds Tryd.pinned (OpenSpec.ofChange ledgerNilSpec)

/-- ITS FALSE NEIGHBOUR: 'it returns false'. Refute it at one input. -/
def ledgerNilWrong : ChangeSpec := { name := "ledgerNil", fn := fun _ => fun
  | [d1, d2] => { results := [.lit (.bool false)], args := [d1, d2] }
  | _ => none }
def LedgerNilWrongFalsely : Prop := ledgerNilRow.holds Tryd.pinned (OpenSpec.ofChange ledgerNilWrong)

/-- 'chattellaw15.LedgerParts': WHATEVER THE INPUT: true; the input reads as it did. -/
def ledgerPartsSpec : ChangeSpec := { name := "ledgerParts", fn := fun _ => fun
  | [d1, d2, d3] => { results := [.lit (.bool true)], args := [d1, d2, d3] }
  | _ => none }
def ledgerPartsRow : OpenClaim := { program := "ytpinhomalmknjaadoor", sum := "bc467c2d665d80ef49e1026760e7906cc2d5b0dd7d38a803a9f8227ef9bcefd2", func := "chattel/chattellaw15.LedgerParts", spec := "ledgerParts", inPlace := ["maps.clone", "math/bits.Add64"], unfollowed := true, recurses := true, named := ["chattel/entry.rules"], apart := false, laid := [("chattel/entry.rules", laid_chattel_entry_rules)] }
def LedgerPartsSaid : Prop := ledgerPartsRow.holds Tryd.pinned (OpenSpec.ofChange ledgerPartsSpec)

/-- ITS FALSE NEIGHBOUR: 'it returns false'. Refute it at one input. -/
def ledgerPartsWrong : ChangeSpec := { name := "ledgerParts", fn := fun _ => fun
  | [d1, d2, d3] => { results := [.lit (.bool false)], args := [d1, d2, d3] }
  | _ => none }
def LedgerPartsWrongFalsely : Prop := ledgerPartsRow.holds Tryd.pinned (OpenSpec.ofChange ledgerPartsWrong)

/-- 'chattellaw15.LedgerReplays': WHATEVER THE INPUT: true; the input reads as it did. -/
def ledgerReplaysSpec : ChangeSpec := { name := "ledgerReplays", fn := fun _ => fun
  | [d] => { results := [.lit (.bool true)], args := [d] }
  | _ => none }
def ledgerReplaysRow : OpenClaim := { program := "ytpinhomalmknjaadoor", sum := "bc467c2d665d80ef49e1026760e7906cc2d5b0dd7d38a803a9f8227ef9bcefd2", func := "chattel/chattellaw15.LedgerReplays", spec := "ledgerReplays", inPlace := ["maps.clone", "math/bits.Add64"], unfollowed := true, recurses := true, named := ["chattel/entry.rules"], apart := false, laid := [("chattel/entry.rules", laid_chattel_entry_rules)] }
def LedgerReplaysSaid : Prop := ledgerReplaysRow.holds Tryd.pinned (OpenSpec.ofChange ledgerReplaysSpec)

/-- ITS FALSE NEIGHBOUR: 'it returns false'. Refute it at one input. -/
def ledgerReplaysWrong : ChangeSpec := { name := "ledgerReplays", fn := fun _ => fun
  | [d] => { results := [.lit (.bool false)], args := [d] }
  | _ => none }
def LedgerReplaysWrongFalsely : Prop := ledgerReplaysRow.holds Tryd.pinned (OpenSpec.ofChange ledgerReplaysWrong)

/-- 'chattellaw15.LedgerEven': WHATEVER THE INPUT: true; the input reads as it did. -/
def ledgerEvenSpec : ChangeSpec := { name := "ledgerEven", fn := fun _ => fun
  | [d] => { results := [.lit (.bool true)], args := [d] }
  | _ => none }
def ledgerEvenRow : OpenClaim := { program := "ytpinhomalmknjaadoor", sum := "bc467c2d665d80ef49e1026760e7906cc2d5b0dd7d38a803a9f8227ef9bcefd2", func := "chattel/chattellaw15.LedgerEven", spec := "ledgerEven", inPlace := ["maps.clone", "math/bits.Add64"], unfollowed := true, recurses := true, named := ["chattel/entry.rules"], apart := false, laid := [("chattel/entry.rules", laid_chattel_entry_rules)] }
def LedgerEvenSaid : Prop := ledgerEvenRow.holds Tryd.pinned (OpenSpec.ofChange ledgerEvenSpec)

/-- ITS FALSE NEIGHBOUR: 'it returns false'. Refute it at one input. -/
def ledgerEvenWrong : ChangeSpec := { name := "ledgerEven", fn := fun _ => fun
  | [d] => { results := [.lit (.bool false)], args := [d] }
  | _ => none }
def LedgerEvenWrongFalsely : Prop := ledgerEvenRow.holds Tryd.pinned (OpenSpec.ofChange ledgerEvenWrong)

/-- 'chattellaw15.LedgerPlays': WHATEVER THE INPUT: true; the input reads as it did. -/
def ledgerPlaysSpec : ChangeSpec := { name := "ledgerPlays", fn := fun _ => fun
  | [d] => { results := [.lit (.bool true)], args := [d] }
  | _ => none }
def ledgerPlaysRow : OpenClaim := { program := "ytpinhomalmknjaadoor", sum := "bc467c2d665d80ef49e1026760e7906cc2d5b0dd7d38a803a9f8227ef9bcefd2", func := "chattel/chattellaw15.LedgerPlays", spec := "ledgerPlays", inPlace := ["maps.clone", "math/bits.Add64"], unfollowed := true, recurses := true, named := ["chattel/entry.rules"], apart := false, laid := [("chattel/entry.rules", laid_chattel_entry_rules)] }
def LedgerPlaysSaid : Prop := ledgerPlaysRow.holds Tryd.pinned (OpenSpec.ofChange ledgerPlaysSpec)

/-- ITS FALSE NEIGHBOUR: 'it returns false'. Refute it at one input. -/
def ledgerPlaysWrong : ChangeSpec := { name := "ledgerPlays", fn := fun _ => fun
  | [d] => { results := [.lit (.bool false)], args := [d] }
  | _ => none }
def LedgerPlaysWrongFalsely : Prop := ledgerPlaysRow.holds Tryd.pinned (OpenSpec.ofChange ledgerPlaysWrong)

/- THE SECOND FORM. 'bulk': how many values and letters a reading holds, each counted each time it is reached (what is shared counts as often as it is met; a slice's spare places count too). A statement '..UptoSaid' is the law's where the arguments, and the package variables that the reading takes, are together of bulk at most 1048576: NARROWER than '..Said'. Prove '..Said' where nothing that the law and all that it calls make is longer than what came in: it says more and counts as full. Else prove '..UptoSaid'. A law counts once. -/
mutual
def uptoBulk {H : Type} : DataW H → Nat
  | .lit (.string bytes) => bytes.length + 1
  | .lit _ => 1
  | .nil => 1
  | .ptr d => uptoBulk d + 1
  | .slice elems spare => uptoBulkAll elems + uptoBulkAll spare + 1
  | .agg parts => uptoBulkAll parts + 1
  | .iface _ d => uptoBulk d + 1
  | .map entries => uptoBulkEntries entries + 1
  | .held _ => 1
def uptoBulkAll {H : Type} : List (DataW H) → Nat
  | [] => 0
  | d :: r => uptoBulk d + uptoBulkAll r
def uptoBulkEntries {H : Type} : List (Lit × DataW H) → Nat
  | [] => 0
  | x :: r => uptoBulkEntry x + uptoBulkEntries r
def uptoBulkEntry {H : Type} : Lit × DataW H → Nat
  | (.string bytes, d) => bytes.length + uptoBulk d + 1
  | (_, d) => uptoBulk d + 1
 end
def uptoSmall : (H : Type) → List (DataW H) → Bool := fun _ ds => decide (uptoBulkAll ds ≤ 1048576)
def OpenSpec.upto (s : _root_.Go.ChangeSpec) : _root_.Go.OpenSpec := { _root_.Go.OpenSpec.ofChange s with cond := some uptoSmall }

/-- 'chattellaw15.LedgerSums', WHERE WHAT IT READS IS OF BULK AT MOST 1048576: true; the input reads as it did. -/
def ledgerSumsUptoRow : OpenClaim := { program := "ytpinhomalmknjaadoor", sum := "bc467c2d665d80ef49e1026760e7906cc2d5b0dd7d38a803a9f8227ef9bcefd2", func := "chattel/chattellaw15.LedgerSums", spec := "ledgerSums", inPlace := ["maps.clone", "math/bits.Add64"], unfollowed := true, recurses := true, named := ["chattel/entry.rules"], apart := false, laid := [("chattel/entry.rules", laid_chattel_entry_rules)], narrowed := true }
def LedgerSumsUptoSaid : Prop := ledgerSumsUptoRow.holds Tryd.pinned (OpenSpec.upto ledgerSumsSpec)

/-- 'chattellaw15.LedgerNil', WHERE WHAT IT READS IS OF BULK AT MOST 1048576: true; the input reads as it did. -/
def ledgerNilUptoRow : OpenClaim := { program := "ytpinhomalmknjaadoor", sum := "bc467c2d665d80ef49e1026760e7906cc2d5b0dd7d38a803a9f8227ef9bcefd2", func := "chattel/chattellaw15.LedgerNil", spec := "ledgerNil", inPlace := ["maps.clone", "math/bits.Add64"], unfollowed := true, recurses := true, named := ["chattel/entry.rules"], apart := false, laid := [("chattel/entry.rules", laid_chattel_entry_rules)], narrowed := true }
def LedgerNilUptoSaid : Prop := ledgerNilUptoRow.holds Tryd.pinned (OpenSpec.upto ledgerNilSpec)

/-- 'chattellaw15.LedgerParts', WHERE WHAT IT READS IS OF BULK AT MOST 1048576: true; the input reads as it did. -/
def ledgerPartsUptoRow : OpenClaim := { program := "ytpinhomalmknjaadoor", sum := "bc467c2d665d80ef49e1026760e7906cc2d5b0dd7d38a803a9f8227ef9bcefd2", func := "chattel/chattellaw15.LedgerParts", spec := "ledgerParts", inPlace := ["maps.clone", "math/bits.Add64"], unfollowed := true, recurses := true, named := ["chattel/entry.rules"], apart := false, laid := [("chattel/entry.rules", laid_chattel_entry_rules)], narrowed := true }
def LedgerPartsUptoSaid : Prop := ledgerPartsUptoRow.holds Tryd.pinned (OpenSpec.upto ledgerPartsSpec)

/-- 'chattellaw15.LedgerReplays', WHERE WHAT IT READS IS OF BULK AT MOST 1048576: true; the input reads as it did. -/
def ledgerReplaysUptoRow : OpenClaim := { program := "ytpinhomalmknjaadoor", sum := "bc467c2d665d80ef49e1026760e7906cc2d5b0dd7d38a803a9f8227ef9bcefd2", func := "chattel/chattellaw15.LedgerReplays", spec := "ledgerReplays", inPlace := ["maps.clone", "math/bits.Add64"], unfollowed := true, recurses := true, named := ["chattel/entry.rules"], apart := false, laid := [("chattel/entry.rules", laid_chattel_entry_rules)], narrowed := true }
def LedgerReplaysUptoSaid : Prop := ledgerReplaysUptoRow.holds Tryd.pinned (OpenSpec.upto ledgerReplaysSpec)

/-- 'chattellaw15.LedgerEven', WHERE WHAT IT READS IS OF BULK AT MOST 1048576: true; the input reads as it did. -/
def ledgerEvenUptoRow : OpenClaim := { program := "ytpinhomalmknjaadoor", sum := "bc467c2d665d80ef49e1026760e7906cc2d5b0dd7d38a803a9f8227ef9bcefd2", func := "chattel/chattellaw15.LedgerEven", spec := "ledgerEven", inPlace := ["maps.clone", "math/bits.Add64"], unfollowed := true, recurses := true, named := ["chattel/entry.rules"], apart := false, laid := [("chattel/entry.rules", laid_chattel_entry_rules)], narrowed := true }
def LedgerEvenUptoSaid : Prop := ledgerEvenUptoRow.holds Tryd.pinned (OpenSpec.upto ledgerEvenSpec)

/-- 'chattellaw15.LedgerPlays', WHERE WHAT IT READS IS OF BULK AT MOST 1048576: true; the input reads as it did. -/
def ledgerPlaysUptoRow : OpenClaim := { program := "ytpinhomalmknjaadoor", sum := "bc467c2d665d80ef49e1026760e7906cc2d5b0dd7d38a803a9f8227ef9bcefd2", func := "chattel/chattellaw15.LedgerPlays", spec := "ledgerPlays", inPlace := ["maps.clone", "math/bits.Add64"], unfollowed := true, recurses := true, named := ["chattel/entry.rules"], apart := false, laid := [("chattel/entry.rules", laid_chattel_entry_rules)], narrowed := true }
def LedgerPlaysUptoSaid : Prop := ledgerPlaysUptoRow.holds Tryd.pinned (OpenSpec.upto ledgerPlaysSpec)

end Rows
end Go.Proofs.YtpinhomalmknjaaDoor
