/-
  DERIVED. GIVEN WITH THE SEED: THE CARDS: each row of YtklbgcpafbjekaaDoorRows.lean that lists a variable, with what it lists TIED to the program's text (the seventh form; the later family's looks); each row that meets fmt, with fmt's text TOLD by the authors' own Lean function (tested against real Go, not proved from fmt's source: count such statements apart). THE CARD IS WHAT COUNTS. Prove the row's statement (the work); the ties are given (YtklbgcpafbjekaaDoorTie.lean); close each card by the builder's one call (the guide's Derived/Test/ToyasCard.lean, 'card_holds'). Laid BY PROGRAM, IN A SANDBOX (cutbox-door.mjs). By AI agents, Wed Nov 11 2026. No macro, syntax, notation, axiom, sorry.
-/
import Derived.Test.YtklbgcpafbjekaaDoorRows
import GoSem.ClaimSeven
namespace Go.Proofs.YtklbgcpafbjekaaDoor
namespace Rows

/-- THE TIED CARD OF 'chattellaw14.EntryChecks'. -/
def entryChecksCard : Claim7 := { stood := { row := entryChecksRow, standIns := [], harness := (true, "421f2a7e391b360d70124144614de11e6f3f07285da758c71eb1733550861859"), looks := false }, kinds := [], alts := [], laidByText := true, laidKinds := [.funcs], laidTests := true, laidLooks := .later }
def EntryChecksCardSaid : Prop := Claim7.holds Tryd.pinned (.plain (OpenSpec.ofChange entryChecksSpec)) entryChecksCard

/-- THE TIED CARD OF 'chattellaw14.EntryFlows'. -/
def entryFlowsCard : Claim7 := { stood := { row := entryFlowsRow, standIns := [], harness := (true, "421f2a7e391b360d70124144614de11e6f3f07285da758c71eb1733550861859"), looks := false }, kinds := [], alts := [], laidByText := true, laidKinds := [.funcs], laidTests := true, laidLooks := .later }
def EntryFlowsCardSaid : Prop := Claim7.holds Tryd.pinned (.plain (OpenSpec.ofChange entryFlowsSpec)) entryFlowsCard

/-- THE TIED CARD OF 'chattellaw14.EntryTurns'. -/
def entryTurnsCard : Claim7 := { stood := { row := entryTurnsRow, standIns := [], harness := (true, "421f2a7e391b360d70124144614de11e6f3f07285da758c71eb1733550861859"), looks := false }, kinds := [], alts := [], laidByText := true, laidKinds := [.funcs], laidTests := true, laidLooks := .later }
def EntryTurnsCardSaid : Prop := Claim7.holds Tryd.pinned (.plain (OpenSpec.ofChange entryTurnsSpec)) entryTurnsCard

/-- THE TIED CARD OF 'chattellaw14.EntryTotals'. -/
def entryTotalsCard : Claim7 := { stood := { row := entryTotalsRow, standIns := [], harness := (true, "421f2a7e391b360d70124144614de11e6f3f07285da758c71eb1733550861859"), looks := false }, kinds := [], alts := [], laidByText := true, laidKinds := [.funcs], laidTests := true, laidLooks := .later }
def EntryTotalsCardSaid : Prop := Claim7.holds Tryd.pinned (.plain (OpenSpec.ofChange entryTotalsSpec)) entryTotalsCard

/-- THE TIED CARD OF 'chattellaw14.EntrySums'. -/
def entrySumsCard : Claim7 := { stood := { row := entrySumsRow, standIns := [], harness := (true, "421f2a7e391b360d70124144614de11e6f3f07285da758c71eb1733550861859"), looks := false }, kinds := [], alts := [], laidByText := true, laidKinds := [.funcs], laidTests := true, laidLooks := .later }
def EntrySumsCardSaid : Prop := Claim7.holds Tryd.pinned (.plain (OpenSpec.ofChange entrySumsSpec)) entrySumsCard

/-- THE SECOND FORM's CARD OF 'chattellaw14.EntryChecks'. -/
def entryChecksUptoCard : Claim7 := { stood := { row := entryChecksUptoRow, standIns := [], harness := (true, "421f2a7e391b360d70124144614de11e6f3f07285da758c71eb1733550861859"), looks := false }, kinds := [], alts := [], laidByText := true, laidKinds := [.funcs], laidTests := true, laidLooks := .later }
def EntryChecksUptoCardSaid : Prop := Claim7.holds Tryd.pinned (.plain (OpenSpec.upto entryChecksSpec)) entryChecksUptoCard

/-- THE SECOND FORM's CARD OF 'chattellaw14.EntryFlows'. -/
def entryFlowsUptoCard : Claim7 := { stood := { row := entryFlowsUptoRow, standIns := [], harness := (true, "421f2a7e391b360d70124144614de11e6f3f07285da758c71eb1733550861859"), looks := false }, kinds := [], alts := [], laidByText := true, laidKinds := [.funcs], laidTests := true, laidLooks := .later }
def EntryFlowsUptoCardSaid : Prop := Claim7.holds Tryd.pinned (.plain (OpenSpec.upto entryFlowsSpec)) entryFlowsUptoCard

/-- THE SECOND FORM's CARD OF 'chattellaw14.EntryTurns'. -/
def entryTurnsUptoCard : Claim7 := { stood := { row := entryTurnsUptoRow, standIns := [], harness := (true, "421f2a7e391b360d70124144614de11e6f3f07285da758c71eb1733550861859"), looks := false }, kinds := [], alts := [], laidByText := true, laidKinds := [.funcs], laidTests := true, laidLooks := .later }
def EntryTurnsUptoCardSaid : Prop := Claim7.holds Tryd.pinned (.plain (OpenSpec.upto entryTurnsSpec)) entryTurnsUptoCard

/-- THE SECOND FORM's CARD OF 'chattellaw14.EntryTotals'. -/
def entryTotalsUptoCard : Claim7 := { stood := { row := entryTotalsUptoRow, standIns := [], harness := (true, "421f2a7e391b360d70124144614de11e6f3f07285da758c71eb1733550861859"), looks := false }, kinds := [], alts := [], laidByText := true, laidKinds := [.funcs], laidTests := true, laidLooks := .later }
def EntryTotalsUptoCardSaid : Prop := Claim7.holds Tryd.pinned (.plain (OpenSpec.upto entryTotalsSpec)) entryTotalsUptoCard

/-- THE SECOND FORM's CARD OF 'chattellaw14.EntrySums'. -/
def entrySumsUptoCard : Claim7 := { stood := { row := entrySumsUptoRow, standIns := [], harness := (true, "421f2a7e391b360d70124144614de11e6f3f07285da758c71eb1733550861859"), looks := false }, kinds := [], alts := [], laidByText := true, laidKinds := [.funcs], laidTests := true, laidLooks := .later }
def EntrySumsUptoCardSaid : Prop := Claim7.holds Tryd.pinned (.plain (OpenSpec.upto entrySumsSpec)) entrySumsUptoCard
end Rows
end Go.Proofs.YtklbgcpafbjekaaDoor
