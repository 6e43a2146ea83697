/-
  NARROWER THAN 'FOR EVERY INPUT', by the rows' own cells (each row's printed sentence says how): TermSizes: laid · TermChecks: laid · TermOps: laid · TermInside: laid · TermJoins: laid · TermTells: laid · TermDeeper: laid.
  DERIVED. THE GIVEN ROWS OF THIS SEAT. 7 by the template 'for every input the law returns true; each argument reads behind the call as it read before'; 0 by the template 'total and deterministic' (their statements: YtglnnllodoljkaaDoorTotals.lean).
  GIVEN WITH THE SEED: the statements are not yours to turn. If you find one false, say at which input.
  Laid BY PROGRAM, IN A SANDBOX (cutbox-rows.mjs): the forced cells as the released guide's own fill.sh prints them over the translation 5742515f6528f195… (all of the seat's roots in one cut). By AI agents, Wed Nov 11 2026. No macro, syntax, notation, axiom, sorry.
-/
import Derived.Test.YtglnnllodoljkaaDoorChecked
import GoSem.Claim
import GoSem.ClaimJoined
import GoSem.ClaimMapViews
import Derived.JoinedTies
import Derived.KernelRfl
namespace Go.Proofs.YtglnnllodoljkaaDoor
/- THE CELL 'sum', in the pinned program and in every row, IS THE sha256 OF THE DUMP (.gsa) THAT YtglnnllodoljkaaDoorProg.lean LOADS. Nothing in Lean hashes anything: it is a label: what it is worth is what the hold of that sum in a sandbox is worth. -/
noncomputable def Tryd.pinned : Pinned := { name := "ytglnnllodoljkaadoor", sum := "5742515f6528f195ee53994e78b94aaf2880519a877092aa8d45ecece04f9974", checked := Tryd.checked }
namespace Rows
def none {H : Type} : Left H := { results := [], args := [] }

/- WHAT THE LISTED PACKAGE-LEVEL VARIABLES READ AS WHEN THE CALL BEGINS. Each datum BY PROGRAM (the guide's laid-datum.mjs) off the statement by which the dump's own 'gosem.cut.vars' lays the variable. In a bare row this is a premise. The card (YtglnnllodoljkaaDoorCards.lean) ties it to the program's text. -/
def laid_chattel_term_shapes {H : Type} : DataW H := .agg [.agg [.lit (.int .i64 0), .lit (.int .i64 0), .agg [.lit (.int .i64 0), .lit (.int .i64 0), .lit (.int .i64 0), .lit (.int .i64 0)]], .agg [.lit (.int .i64 1), .lit (.int .i64 0), .agg [.lit (.int .i64 0), .lit (.int .i64 0), .lit (.int .i64 0), .lit (.int .i64 0)]], .agg [.lit (.int .i64 1), .lit (.int .i64 0), .agg [.lit (.int .i64 0), .lit (.int .i64 0), .lit (.int .i64 0), .lit (.int .i64 0)]], .agg [.lit (.int .i64 1), .lit (.int .i64 1), .agg [.lit (.int .i64 1), .lit (.int .i64 0), .lit (.int .i64 0), .lit (.int .i64 0)]], .agg [.lit (.int .i64 1), .lit (.int .i64 2), .agg [.lit (.int .i64 1), .lit (.int .i64 1), .lit (.int .i64 0), .lit (.int .i64 0)]], .agg [.lit (.int .i64 1), .lit (.int .i64 2), .agg [.lit (.int .i64 1), .lit (.int .i64 1), .lit (.int .i64 0), .lit (.int .i64 0)]], .agg [.lit (.int .i64 1), .lit (.int .i64 2), .agg [.lit (.int .i64 1), .lit (.int .i64 1), .lit (.int .i64 0), .lit (.int .i64 0)]], .agg [.lit (.int .i64 1), .lit (.int .i64 2), .agg [.lit (.int .i64 1), .lit (.int .i64 1), .lit (.int .i64 0), .lit (.int .i64 0)]], .agg [.lit (.int .i64 1), .lit (.int .i64 2), .agg [.lit (.int .i64 1), .lit (.int .i64 1), .lit (.int .i64 0), .lit (.int .i64 0)]], .agg [.lit (.int .i64 2), .lit (.int .i64 0), .agg [.lit (.int .i64 0), .lit (.int .i64 0), .lit (.int .i64 0), .lit (.int .i64 0)]], .agg [.lit (.int .i64 2), .lit (.int .i64 0), .agg [.lit (.int .i64 0), .lit (.int .i64 0), .lit (.int .i64 0), .lit (.int .i64 0)]], .agg [.lit (.int .i64 2), .lit (.int .i64 1), .agg [.lit (.int .i64 2), .lit (.int .i64 0), .lit (.int .i64 0), .lit (.int .i64 0)]], .agg [.lit (.int .i64 2), .lit (.int .i64 2), .agg [.lit (.int .i64 2), .lit (.int .i64 2), .lit (.int .i64 0), .lit (.int .i64 0)]], .agg [.lit (.int .i64 2), .lit (.int .i64 2), .agg [.lit (.int .i64 1), .lit (.int .i64 2), .lit (.int .i64 0), .lit (.int .i64 0)]], .agg [.lit (.int .i64 2), .lit (.int .i64 1), .agg [.lit (.int .i64 2), .lit (.int .i64 0), .lit (.int .i64 0), .lit (.int .i64 0)]], .agg [.lit (.int .i64 2), .lit (.int .i64 4), .agg [.lit (.int .i64 1), .lit (.int .i64 1), .lit (.int .i64 2), .lit (.int .i64 2)]], .agg [.lit (.int .i64 2), .lit (.int .i64 2), .agg [.lit (.int .i64 2), .lit (.int .i64 2), .lit (.int .i64 0), .lit (.int .i64 0)]], .agg [.lit (.int .i64 2), .lit (.int .i64 1), .agg [.lit (.int .i64 2), .lit (.int .i64 0), .lit (.int .i64 0), .lit (.int .i64 0)]]]

/-- 'chattellaw05.TermSizes': WHATEVER THE INPUT: true; the input reads as it did. -/
def termSizesSpec : ChangeSpec := { name := "termSizes", fn := fun _ => fun
  | [d1, d2] => { results := [.lit (.bool true)], args := [d1, d2] }
  | _ => none }
def termSizesRow : OpenClaim := { program := "ytglnnllodoljkaadoor", sum := "5742515f6528f195ee53994e78b94aaf2880519a877092aa8d45ecece04f9974", func := "chattel/chattellaw05.TermSizes", spec := "termSizes", unfollowed := true, recurses := true, named := ["chattel/term.shapes"], apart := false, laid := [("chattel/term.shapes", laid_chattel_term_shapes)] }
def TermSizesSaid : Prop := termSizesRow.holds Tryd.pinned (OpenSpec.ofChange termSizesSpec)

/-- ITS FALSE NEIGHBOUR: 'it returns false'. Refute it at one input. -/
def termSizesWrong : ChangeSpec := { name := "termSizes", fn := fun _ => fun
  | [d1, d2] => { results := [.lit (.bool false)], args := [d1, d2] }
  | _ => none }
def TermSizesWrongFalsely : Prop := termSizesRow.holds Tryd.pinned (OpenSpec.ofChange termSizesWrong)

/-- 'chattellaw05.TermChecks': WHATEVER THE INPUT: true; the input reads as it did. -/
def termChecksSpec : ChangeSpec := { name := "termChecks", fn := fun _ => fun
  | [d] => { results := [.lit (.bool true)], args := [d] }
  | _ => none }
def termChecksRow : OpenClaim := { program := "ytglnnllodoljkaadoor", sum := "5742515f6528f195ee53994e78b94aaf2880519a877092aa8d45ecece04f9974", func := "chattel/chattellaw05.TermChecks", spec := "termChecks", unfollowed := true, recurses := true, named := ["chattel/term.shapes"], apart := false, laid := [("chattel/term.shapes", laid_chattel_term_shapes)] }
def TermChecksSaid : Prop := termChecksRow.holds Tryd.pinned (OpenSpec.ofChange termChecksSpec)

/-- ITS FALSE NEIGHBOUR: 'it returns false'. Refute it at one input. -/
def termChecksWrong : ChangeSpec := { name := "termChecks", fn := fun _ => fun
  | [d] => { results := [.lit (.bool false)], args := [d] }
  | _ => none }
def TermChecksWrongFalsely : Prop := termChecksRow.holds Tryd.pinned (OpenSpec.ofChange termChecksWrong)

/-- 'chattellaw05.TermOps': WHATEVER THE INPUT: true; the input reads as it did. -/
def termOpsSpec : ChangeSpec := { name := "termOps", fn := fun _ => fun
  | [d] => { results := [.lit (.bool true)], args := [d] }
  | _ => none }
def termOpsRow : OpenClaim := { program := "ytglnnllodoljkaadoor", sum := "5742515f6528f195ee53994e78b94aaf2880519a877092aa8d45ecece04f9974", func := "chattel/chattellaw05.TermOps", spec := "termOps", unfollowed := true, recurses := true, named := ["chattel/term.shapes"], apart := false, laid := [("chattel/term.shapes", laid_chattel_term_shapes)] }
def TermOpsSaid : Prop := termOpsRow.holds Tryd.pinned (OpenSpec.ofChange termOpsSpec)

/-- ITS FALSE NEIGHBOUR: 'it returns false'. Refute it at one input. -/
def termOpsWrong : ChangeSpec := { name := "termOps", fn := fun _ => fun
  | [d] => { results := [.lit (.bool false)], args := [d] }
  | _ => none }
def TermOpsWrongFalsely : Prop := termOpsRow.holds Tryd.pinned (OpenSpec.ofChange termOpsWrong)

/-- 'chattellaw05.TermInside': WHATEVER THE INPUT: true; the input reads as it did. -/
def termInsideSpec : ChangeSpec := { name := "termInside", fn := fun _ => fun
  | [d] => { results := [.lit (.bool true)], args := [d] }
  | _ => none }
def termInsideRow : OpenClaim := { program := "ytglnnllodoljkaadoor", sum := "5742515f6528f195ee53994e78b94aaf2880519a877092aa8d45ecece04f9974", func := "chattel/chattellaw05.TermInside", spec := "termInside", unfollowed := true, recurses := true, named := ["chattel/term.shapes"], apart := false, laid := [("chattel/term.shapes", laid_chattel_term_shapes)] }
def TermInsideSaid : Prop := termInsideRow.holds Tryd.pinned (OpenSpec.ofChange termInsideSpec)

/-- ITS FALSE NEIGHBOUR: 'it returns false'. Refute it at one input. -/
def termInsideWrong : ChangeSpec := { name := "termInside", fn := fun _ => fun
  | [d] => { results := [.lit (.bool false)], args := [d] }
  | _ => none }
def TermInsideWrongFalsely : Prop := termInsideRow.holds Tryd.pinned (OpenSpec.ofChange termInsideWrong)

/-- 'chattellaw05.TermJoins': WHATEVER THE INPUT: true; the input reads as it did. -/
def termJoinsSpec : ChangeSpec := { name := "termJoins", fn := fun _ => fun
  | [d1, d2] => { results := [.lit (.bool true)], args := [d1, d2] }
  | _ => none }
def termJoinsRow : OpenClaim := { program := "ytglnnllodoljkaadoor", sum := "5742515f6528f195ee53994e78b94aaf2880519a877092aa8d45ecece04f9974", func := "chattel/chattellaw05.TermJoins", spec := "termJoins", unfollowed := true, recurses := true, named := ["chattel/term.shapes"], apart := false, laid := [("chattel/term.shapes", laid_chattel_term_shapes)] }
def TermJoinsSaid : Prop := termJoinsRow.holds Tryd.pinned (OpenSpec.ofChange termJoinsSpec)

/-- ITS FALSE NEIGHBOUR: 'it returns false'. Refute it at one input. -/
def termJoinsWrong : ChangeSpec := { name := "termJoins", fn := fun _ => fun
  | [d1, d2] => { results := [.lit (.bool false)], args := [d1, d2] }
  | _ => none }
def TermJoinsWrongFalsely : Prop := termJoinsRow.holds Tryd.pinned (OpenSpec.ofChange termJoinsWrong)

/-- 'chattellaw05.TermTells': WHATEVER THE INPUT: true; the input reads as it did. -/
def termTellsSpec : ChangeSpec := { name := "termTells", fn := fun _ => fun
  | [d] => { results := [.lit (.bool true)], args := [d] }
  | _ => none }
def termTellsRow : OpenClaim := { program := "ytglnnllodoljkaadoor", sum := "5742515f6528f195ee53994e78b94aaf2880519a877092aa8d45ecece04f9974", func := "chattel/chattellaw05.TermTells", spec := "termTells", unfollowed := true, recurses := true, named := ["chattel/term.shapes"], apart := false, laid := [("chattel/term.shapes", laid_chattel_term_shapes)] }
def TermTellsSaid : Prop := termTellsRow.holds Tryd.pinned (OpenSpec.ofChange termTellsSpec)

/-- ITS FALSE NEIGHBOUR: 'it returns false'. Refute it at one input. -/
def termTellsWrong : ChangeSpec := { name := "termTells", fn := fun _ => fun
  | [d] => { results := [.lit (.bool false)], args := [d] }
  | _ => none }
def TermTellsWrongFalsely : Prop := termTellsRow.holds Tryd.pinned (OpenSpec.ofChange termTellsWrong)

/-- 'chattellaw05.TermDeeper': WHATEVER THE INPUT: true; the input reads as it did. -/
def termDeeperSpec : ChangeSpec := { name := "termDeeper", fn := fun _ => fun
  | [d1, d2] => { results := [.lit (.bool true)], args := [d1, d2] }
  | _ => none }
def termDeeperRow : OpenClaim := { program := "ytglnnllodoljkaadoor", sum := "5742515f6528f195ee53994e78b94aaf2880519a877092aa8d45ecece04f9974", func := "chattel/chattellaw05.TermDeeper", spec := "termDeeper", unfollowed := true, recurses := true, named := ["chattel/term.shapes"], apart := false, laid := [("chattel/term.shapes", laid_chattel_term_shapes)] }
def TermDeeperSaid : Prop := termDeeperRow.holds Tryd.pinned (OpenSpec.ofChange termDeeperSpec)

/-- ITS FALSE NEIGHBOUR: 'it returns false'. Refute it at one input. -/
def termDeeperWrong : ChangeSpec := { name := "termDeeper", fn := fun _ => fun
  | [d1, d2] => { results := [.lit (.bool false)], args := [d1, d2] }
  | _ => none }
def TermDeeperWrongFalsely : Prop := termDeeperRow.holds Tryd.pinned (OpenSpec.ofChange termDeeperWrong)

/- THE SECOND FORM. 'bulk': how many values and letters a reading holds, each counted each time it is reached (what is shared counts as often as it is met; a slice's spare places count too). A statement '..UptoSaid' is the law's where the arguments, and the package variables that the reading takes, are together of bulk at most 1048576: NARROWER than '..Said'. Prove '..Said' where nothing that the law and all that it calls make is longer than what came in: it says more and counts as full. Else prove '..UptoSaid'. A law counts once. -/
mutual
def uptoBulk {H : Type} : DataW H → Nat
  | .lit (.string bytes) => bytes.length + 1
  | .lit _ => 1
  | .nil => 1
  | .ptr d => uptoBulk d + 1
  | .slice elems spare => uptoBulkAll elems + uptoBulkAll spare + 1
  | .agg parts => uptoBulkAll parts + 1
  | .iface _ d => uptoBulk d + 1
  | .map entries => uptoBulkEntries entries + 1
  | .held _ => 1
def uptoBulkAll {H : Type} : List (DataW H) → Nat
  | [] => 0
  | d :: r => uptoBulk d + uptoBulkAll r
def uptoBulkEntries {H : Type} : List (Lit × DataW H) → Nat
  | [] => 0
  | x :: r => uptoBulkEntry x + uptoBulkEntries r
def uptoBulkEntry {H : Type} : Lit × DataW H → Nat
  | (.string bytes, d) => bytes.length + uptoBulk d + 1
  | (_, d) => uptoBulk d + 1
 end
def uptoSmall : (H : Type) → List (DataW H) → Bool := fun _ ds => decide (uptoBulkAll ds ≤ 1048576)
def OpenSpec.upto (s : _root_.Go.ChangeSpec) : _root_.Go.OpenSpec := { _root_.Go.OpenSpec.ofChange s with cond := some uptoSmall }

/-- 'chattellaw05.TermSizes', WHERE WHAT IT READS IS OF BULK AT MOST 1048576: true; the input reads as it did. -/
def termSizesUptoRow : OpenClaim := { program := "ytglnnllodoljkaadoor", sum := "5742515f6528f195ee53994e78b94aaf2880519a877092aa8d45ecece04f9974", func := "chattel/chattellaw05.TermSizes", spec := "termSizes", unfollowed := true, recurses := true, named := ["chattel/term.shapes"], apart := false, laid := [("chattel/term.shapes", laid_chattel_term_shapes)], narrowed := true }
def TermSizesUptoSaid : Prop := termSizesUptoRow.holds Tryd.pinned (OpenSpec.upto termSizesSpec)

/-- 'chattellaw05.TermChecks', WHERE WHAT IT READS IS OF BULK AT MOST 1048576: true; the input reads as it did. -/
def termChecksUptoRow : OpenClaim := { program := "ytglnnllodoljkaadoor", sum := "5742515f6528f195ee53994e78b94aaf2880519a877092aa8d45ecece04f9974", func := "chattel/chattellaw05.TermChecks", spec := "termChecks", unfollowed := true, recurses := true, named := ["chattel/term.shapes"], apart := false, laid := [("chattel/term.shapes", laid_chattel_term_shapes)], narrowed := true }
def TermChecksUptoSaid : Prop := termChecksUptoRow.holds Tryd.pinned (OpenSpec.upto termChecksSpec)

/-- 'chattellaw05.TermOps', WHERE WHAT IT READS IS OF BULK AT MOST 1048576: true; the input reads as it did. -/
def termOpsUptoRow : OpenClaim := { program := "ytglnnllodoljkaadoor", sum := "5742515f6528f195ee53994e78b94aaf2880519a877092aa8d45ecece04f9974", func := "chattel/chattellaw05.TermOps", spec := "termOps", unfollowed := true, recurses := true, named := ["chattel/term.shapes"], apart := false, laid := [("chattel/term.shapes", laid_chattel_term_shapes)], narrowed := true }
def TermOpsUptoSaid : Prop := termOpsUptoRow.holds Tryd.pinned (OpenSpec.upto termOpsSpec)

/-- 'chattellaw05.TermInside', WHERE WHAT IT READS IS OF BULK AT MOST 1048576: true; the input reads as it did. -/
def termInsideUptoRow : OpenClaim := { program := "ytglnnllodoljkaadoor", sum := "5742515f6528f195ee53994e78b94aaf2880519a877092aa8d45ecece04f9974", func := "chattel/chattellaw05.TermInside", spec := "termInside", unfollowed := true, recurses := true, named := ["chattel/term.shapes"], apart := false, laid := [("chattel/term.shapes", laid_chattel_term_shapes)], narrowed := true }
def TermInsideUptoSaid : Prop := termInsideUptoRow.holds Tryd.pinned (OpenSpec.upto termInsideSpec)

/-- 'chattellaw05.TermJoins', WHERE WHAT IT READS IS OF BULK AT MOST 1048576: true; the input reads as it did. -/
def termJoinsUptoRow : OpenClaim := { program := "ytglnnllodoljkaadoor", sum := "5742515f6528f195ee53994e78b94aaf2880519a877092aa8d45ecece04f9974", func := "chattel/chattellaw05.TermJoins", spec := "termJoins", unfollowed := true, recurses := true, named := ["chattel/term.shapes"], apart := false, laid := [("chattel/term.shapes", laid_chattel_term_shapes)], narrowed := true }
def TermJoinsUptoSaid : Prop := termJoinsUptoRow.holds Tryd.pinned (OpenSpec.upto termJoinsSpec)

/-- 'chattellaw05.TermTells', WHERE WHAT IT READS IS OF BULK AT MOST 1048576: true; the input reads as it did. -/
def termTellsUptoRow : OpenClaim := { program := "ytglnnllodoljkaadoor", sum := "5742515f6528f195ee53994e78b94aaf2880519a877092aa8d45ecece04f9974", func := "chattel/chattellaw05.TermTells", spec := "termTells", unfollowed := true, recurses := true, named := ["chattel/term.shapes"], apart := false, laid := [("chattel/term.shapes", laid_chattel_term_shapes)], narrowed := true }
def TermTellsUptoSaid : Prop := termTellsUptoRow.holds Tryd.pinned (OpenSpec.upto termTellsSpec)

/-- 'chattellaw05.TermDeeper', WHERE WHAT IT READS IS OF BULK AT MOST 1048576: true; the input reads as it did. -/
def termDeeperUptoRow : OpenClaim := { program := "ytglnnllodoljkaadoor", sum := "5742515f6528f195ee53994e78b94aaf2880519a877092aa8d45ecece04f9974", func := "chattel/chattellaw05.TermDeeper", spec := "termDeeper", unfollowed := true, recurses := true, named := ["chattel/term.shapes"], apart := false, laid := [("chattel/term.shapes", laid_chattel_term_shapes)], narrowed := true }
def TermDeeperUptoSaid : Prop := termDeeperUptoRow.holds Tryd.pinned (OpenSpec.upto termDeeperSpec)

end Rows
end Go.Proofs.YtglnnllodoljkaaDoor
