/-
  No cell of these rows narrows 'for every input' (looked for: loops, veiled, ifaces, maps, wideKeys, modest, calm, conditions, laid).
  DERIVED. THE GIVEN ROWS OF THIS SEAT. 6 by the template 'for every input the law returns true; each argument reads behind the call as it read before'; 0 by the template 'total and deterministic' (their statements: YtncodoaphfeefaaTotals.lean).
  GIVEN WITH THE SEED: the statements are not yours to turn. If you find one false, say at which input.
  Laid BY PROGRAM, IN A SANDBOX (cutbox-rows.mjs): the forced cells as the released guide's own fill.sh prints them over the translation 3903249a2a267030… (all of the seat's roots in one cut). By AI agents, Wed Nov 11 2026. No macro, syntax, notation, axiom, sorry.
-/
import Derived.Test.YtncodoaphfeefaaChecked
import GoSem.Claim
import GoSem.ClaimJoined
import GoSem.ClaimMapViews
import Derived.JoinedTies
import Derived.KernelRfl
namespace Go.Proofs.Ytncodoaphfeefaa
/- THE CELL 'sum', in the pinned program and in every row, IS THE sha256 OF THE DUMP (.gsa) THAT YtncodoaphfeefaaProg.lean LOADS. Nothing in Lean hashes anything: it is a label: what it is worth is what the hold of that sum in a sandbox is worth. -/
noncomputable def Try.pinned : Pinned := { name := "ytncodoaphfeefaa", sum := "3903249a2a267030df14cbfe9667f812d22ddf91a8759d6f18e5cfd5e1b42a52", checked := Try.checked }
namespace Rows
def none {H : Type} : Left H := { results := [], args := [] }

/-- 'chattellaw01.AmountRounds': WHATEVER THE INPUT: true; the input reads as it did. -/
def amountRoundsSpec : ChangeSpec := { name := "amountRounds", fn := fun _ => fun
  | [d1, d2, d3] => { results := [.lit (.bool true)], args := [d1, d2, d3] }
  | _ => none }
def amountRoundsRow : OpenClaim := { program := "ytncodoaphfeefaa", sum := "3903249a2a267030df14cbfe9667f812d22ddf91a8759d6f18e5cfd5e1b42a52", func := "chattel/chattellaw01.AmountRounds", spec := "amountRounds", inPlace := ["math/bits.Add64"], unfollowed := true, recurses := true, named := ["math/bits.divideError", "math/bits.overflowError"], apart := false }
def AmountRoundsSaid : Prop := amountRoundsRow.holds Try.pinned (OpenSpec.ofChange amountRoundsSpec)

/-- ITS FALSE NEIGHBOUR: 'it returns false'. Refute it at one input. -/
def amountRoundsWrong : ChangeSpec := { name := "amountRounds", fn := fun _ => fun
  | [d1, d2, d3] => { results := [.lit (.bool false)], args := [d1, d2, d3] }
  | _ => none }
def AmountRoundsWrongFalsely : Prop := amountRoundsRow.holds Try.pinned (OpenSpec.ofChange amountRoundsWrong)

/-- 'chattellaw01.AmountSplits': WHATEVER THE INPUT: true; the input reads as it did. -/
def amountSplitsSpec : ChangeSpec := { name := "amountSplits", fn := fun _ => fun
  | [d1, d2] => { results := [.lit (.bool true)], args := [d1, d2] }
  | _ => none }
def amountSplitsRow : OpenClaim := { program := "ytncodoaphfeefaa", sum := "3903249a2a267030df14cbfe9667f812d22ddf91a8759d6f18e5cfd5e1b42a52", func := "chattel/chattellaw01.AmountSplits", spec := "amountSplits", inPlace := ["math/bits.Add64"], unfollowed := true, recurses := true, named := ["math/bits.divideError", "math/bits.overflowError"], apart := false }
def AmountSplitsSaid : Prop := amountSplitsRow.holds Try.pinned (OpenSpec.ofChange amountSplitsSpec)

/-- ITS FALSE NEIGHBOUR: 'it returns false'. Refute it at one input. -/
def amountSplitsWrong : ChangeSpec := { name := "amountSplits", fn := fun _ => fun
  | [d1, d2] => { results := [.lit (.bool false)], args := [d1, d2] }
  | _ => none }
def AmountSplitsWrongFalsely : Prop := amountSplitsRow.holds Try.pinned (OpenSpec.ofChange amountSplitsWrong)

/-- 'chattellaw01.AmountWhole': WHATEVER THE INPUT: true; the input reads as it did. -/
def amountWholeSpec : ChangeSpec := { name := "amountWhole", fn := fun _ => fun
  | [d1, d2] => { results := [.lit (.bool true)], args := [d1, d2] }
  | _ => none }
def amountWholeRow : OpenClaim := { program := "ytncodoaphfeefaa", sum := "3903249a2a267030df14cbfe9667f812d22ddf91a8759d6f18e5cfd5e1b42a52", func := "chattel/chattellaw01.AmountWhole", spec := "amountWhole", inPlace := ["math/bits.Add64"], unfollowed := true, recurses := true, named := ["math/bits.divideError", "math/bits.overflowError"], apart := false }
def AmountWholeSaid : Prop := amountWholeRow.holds Try.pinned (OpenSpec.ofChange amountWholeSpec)

/-- ITS FALSE NEIGHBOUR: 'it returns false'. Refute it at one input. -/
def amountWholeWrong : ChangeSpec := { name := "amountWhole", fn := fun _ => fun
  | [d1, d2] => { results := [.lit (.bool false)], args := [d1, d2] }
  | _ => none }
def AmountWholeWrongFalsely : Prop := amountWholeRow.holds Try.pinned (OpenSpec.ofChange amountWholeWrong)

/-- 'chattellaw01.AmountScales': WHATEVER THE INPUT: true; the input reads as it did. -/
def amountScalesSpec : ChangeSpec := { name := "amountScales", fn := fun _ => fun
  | [d1, d2, d3] => { results := [.lit (.bool true)], args := [d1, d2, d3] }
  | _ => none }
def amountScalesRow : OpenClaim := { program := "ytncodoaphfeefaa", sum := "3903249a2a267030df14cbfe9667f812d22ddf91a8759d6f18e5cfd5e1b42a52", func := "chattel/chattellaw01.AmountScales", spec := "amountScales", inPlace := ["math/bits.Add64"], unfollowed := true, recurses := true, named := ["math/bits.divideError", "math/bits.overflowError"], apart := false }
def AmountScalesSaid : Prop := amountScalesRow.holds Try.pinned (OpenSpec.ofChange amountScalesSpec)

/-- ITS FALSE NEIGHBOUR: 'it returns false'. Refute it at one input. -/
def amountScalesWrong : ChangeSpec := { name := "amountScales", fn := fun _ => fun
  | [d1, d2, d3] => { results := [.lit (.bool false)], args := [d1, d2, d3] }
  | _ => none }
def AmountScalesWrongFalsely : Prop := amountScalesRow.holds Try.pinned (OpenSpec.ofChange amountScalesWrong)

/-- 'chattellaw01.AmountSums': WHATEVER THE INPUT: true; the input reads as it did. -/
def amountSumsSpec : ChangeSpec := { name := "amountSums", fn := fun _ => fun
  | [d1, d2, d3] => { results := [.lit (.bool true)], args := [d1, d2, d3] }
  | _ => none }
def amountSumsRow : OpenClaim := { program := "ytncodoaphfeefaa", sum := "3903249a2a267030df14cbfe9667f812d22ddf91a8759d6f18e5cfd5e1b42a52", func := "chattel/chattellaw01.AmountSums", spec := "amountSums", inPlace := ["math/bits.Add64"], unfollowed := true, recurses := true, named := ["math/bits.divideError", "math/bits.overflowError"], apart := false }
def AmountSumsSaid : Prop := amountSumsRow.holds Try.pinned (OpenSpec.ofChange amountSumsSpec)

/-- ITS FALSE NEIGHBOUR: 'it returns false'. Refute it at one input. -/
def amountSumsWrong : ChangeSpec := { name := "amountSums", fn := fun _ => fun
  | [d1, d2, d3] => { results := [.lit (.bool false)], args := [d1, d2, d3] }
  | _ => none }
def AmountSumsWrongFalsely : Prop := amountSumsRow.holds Try.pinned (OpenSpec.ofChange amountSumsWrong)

/-- 'chattellaw01.AmountOrder': WHATEVER THE INPUT: true; the input reads as it did. -/
def amountOrderSpec : ChangeSpec := { name := "amountOrder", fn := fun _ => fun
  | [d1, d2, d3] => { results := [.lit (.bool true)], args := [d1, d2, d3] }
  | _ => none }
def amountOrderRow : OpenClaim := { program := "ytncodoaphfeefaa", sum := "3903249a2a267030df14cbfe9667f812d22ddf91a8759d6f18e5cfd5e1b42a52", func := "chattel/chattellaw01.AmountOrder", spec := "amountOrder", inPlace := ["math/bits.Add64"], unfollowed := true, recurses := true, named := ["math/bits.divideError", "math/bits.overflowError"], apart := false }
def AmountOrderSaid : Prop := amountOrderRow.holds Try.pinned (OpenSpec.ofChange amountOrderSpec)

/-- ITS FALSE NEIGHBOUR: 'it returns false'. Refute it at one input. -/
def amountOrderWrong : ChangeSpec := { name := "amountOrder", fn := fun _ => fun
  | [d1, d2, d3] => { results := [.lit (.bool false)], args := [d1, d2, d3] }
  | _ => none }
def AmountOrderWrongFalsely : Prop := amountOrderRow.holds Try.pinned (OpenSpec.ofChange amountOrderWrong)

/- THE SECOND FORM. 'bulk': how many values and letters a reading holds, each counted each time it is reached (what is shared counts as often as it is met; a slice's spare places count too). A statement '..UptoSaid' is the law's where the arguments, and the package variables that the reading takes, are together of bulk at most 1048576: NARROWER than '..Said'. Prove '..Said' where nothing that the law and all that it calls make is longer than what came in: it says more and counts as full. Else prove '..UptoSaid'. A law counts once. -/
mutual
def uptoBulk {H : Type} : DataW H → Nat
  | .lit (.string bytes) => bytes.length + 1
  | .lit _ => 1
  | .nil => 1
  | .ptr d => uptoBulk d + 1
  | .slice elems spare => uptoBulkAll elems + uptoBulkAll spare + 1
  | .agg parts => uptoBulkAll parts + 1
  | .iface _ d => uptoBulk d + 1
  | .map entries => uptoBulkEntries entries + 1
  | .held _ => 1
def uptoBulkAll {H : Type} : List (DataW H) → Nat
  | [] => 0
  | d :: r => uptoBulk d + uptoBulkAll r
def uptoBulkEntries {H : Type} : List (Lit × DataW H) → Nat
  | [] => 0
  | x :: r => uptoBulkEntry x + uptoBulkEntries r
def uptoBulkEntry {H : Type} : Lit × DataW H → Nat
  | (.string bytes, d) => bytes.length + uptoBulk d + 1
  | (_, d) => uptoBulk d + 1
 end
def uptoSmall : (H : Type) → List (DataW H) → Bool := fun _ ds => decide (uptoBulkAll ds ≤ 1048576)
def OpenSpec.upto (s : _root_.Go.ChangeSpec) : _root_.Go.OpenSpec := { _root_.Go.OpenSpec.ofChange s with cond := some uptoSmall }

/-- 'chattellaw01.AmountRounds', WHERE WHAT IT READS IS OF BULK AT MOST 1048576: true; the input reads as it did. -/
def amountRoundsUptoRow : OpenClaim := { program := "ytncodoaphfeefaa", sum := "3903249a2a267030df14cbfe9667f812d22ddf91a8759d6f18e5cfd5e1b42a52", func := "chattel/chattellaw01.AmountRounds", spec := "amountRounds", inPlace := ["math/bits.Add64"], unfollowed := true, recurses := true, named := ["math/bits.divideError", "math/bits.overflowError"], apart := false, narrowed := true }
def AmountRoundsUptoSaid : Prop := amountRoundsUptoRow.holds Try.pinned (OpenSpec.upto amountRoundsSpec)

/-- 'chattellaw01.AmountSplits', WHERE WHAT IT READS IS OF BULK AT MOST 1048576: true; the input reads as it did. -/
def amountSplitsUptoRow : OpenClaim := { program := "ytncodoaphfeefaa", sum := "3903249a2a267030df14cbfe9667f812d22ddf91a8759d6f18e5cfd5e1b42a52", func := "chattel/chattellaw01.AmountSplits", spec := "amountSplits", inPlace := ["math/bits.Add64"], unfollowed := true, recurses := true, named := ["math/bits.divideError", "math/bits.overflowError"], apart := false, narrowed := true }
def AmountSplitsUptoSaid : Prop := amountSplitsUptoRow.holds Try.pinned (OpenSpec.upto amountSplitsSpec)

/-- 'chattellaw01.AmountWhole', WHERE WHAT IT READS IS OF BULK AT MOST 1048576: true; the input reads as it did. -/
def amountWholeUptoRow : OpenClaim := { program := "ytncodoaphfeefaa", sum := "3903249a2a267030df14cbfe9667f812d22ddf91a8759d6f18e5cfd5e1b42a52", func := "chattel/chattellaw01.AmountWhole", spec := "amountWhole", inPlace := ["math/bits.Add64"], unfollowed := true, recurses := true, named := ["math/bits.divideError", "math/bits.overflowError"], apart := false, narrowed := true }
def AmountWholeUptoSaid : Prop := amountWholeUptoRow.holds Try.pinned (OpenSpec.upto amountWholeSpec)

/-- 'chattellaw01.AmountScales', WHERE WHAT IT READS IS OF BULK AT MOST 1048576: true; the input reads as it did. -/
def amountScalesUptoRow : OpenClaim := { program := "ytncodoaphfeefaa", sum := "3903249a2a267030df14cbfe9667f812d22ddf91a8759d6f18e5cfd5e1b42a52", func := "chattel/chattellaw01.AmountScales", spec := "amountScales", inPlace := ["math/bits.Add64"], unfollowed := true, recurses := true, named := ["math/bits.divideError", "math/bits.overflowError"], apart := false, narrowed := true }
def AmountScalesUptoSaid : Prop := amountScalesUptoRow.holds Try.pinned (OpenSpec.upto amountScalesSpec)

/-- 'chattellaw01.AmountSums', WHERE WHAT IT READS IS OF BULK AT MOST 1048576: true; the input reads as it did. -/
def amountSumsUptoRow : OpenClaim := { program := "ytncodoaphfeefaa", sum := "3903249a2a267030df14cbfe9667f812d22ddf91a8759d6f18e5cfd5e1b42a52", func := "chattel/chattellaw01.AmountSums", spec := "amountSums", inPlace := ["math/bits.Add64"], unfollowed := true, recurses := true, named := ["math/bits.divideError", "math/bits.overflowError"], apart := false, narrowed := true }
def AmountSumsUptoSaid : Prop := amountSumsUptoRow.holds Try.pinned (OpenSpec.upto amountSumsSpec)

/-- 'chattellaw01.AmountOrder', WHERE WHAT IT READS IS OF BULK AT MOST 1048576: true; the input reads as it did. -/
def amountOrderUptoRow : OpenClaim := { program := "ytncodoaphfeefaa", sum := "3903249a2a267030df14cbfe9667f812d22ddf91a8759d6f18e5cfd5e1b42a52", func := "chattel/chattellaw01.AmountOrder", spec := "amountOrder", inPlace := ["math/bits.Add64"], unfollowed := true, recurses := true, named := ["math/bits.divideError", "math/bits.overflowError"], apart := false, narrowed := true }
def AmountOrderUptoSaid : Prop := amountOrderUptoRow.holds Try.pinned (OpenSpec.upto amountOrderSpec)

end Rows
end Go.Proofs.Ytncodoaphfeefaa
