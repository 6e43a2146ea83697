/-
  DERIVED. GIVEN WITH THE SEED: THE CARDS: each row of YtpinhomalmknjaaDoorRows.lean that lists a variable, with what it lists TIED to the program's text (the seventh form; the later family's looks); each row that meets fmt, with fmt's text TOLD by the authors' own Lean function (tested against real Go, not proved from fmt's source: count such statements apart). THE CARD IS WHAT COUNTS. Prove the row's statement (the work); the ties are given (YtpinhomalmknjaaDoorTie.lean); close each card by the builder's one call (the guide's Derived/Test/ToyasCard.lean, 'card_holds'). Laid BY PROGRAM, IN A SANDBOX (cutbox-door.mjs). By AI agents, Wed Nov 11 2026. No macro, syntax, notation, axiom, sorry.
-/
import Derived.Test.YtpinhomalmknjaaDoorRows
import GoSem.ClaimSeven
namespace Go.Proofs.YtpinhomalmknjaaDoor
namespace Rows

/-- THE TIED CARD OF 'chattellaw15.LedgerSums'. -/
def ledgerSumsCard : Claim7 := { stood := { row := ledgerSumsRow, standIns := [], harness := (true, "bb5db08878af7844fc506e1d643f2190130c2cd1388a2e95794713584268556f"), looks := true }, kinds := [], alts := [], laidByText := true, laidKinds := [.funcs], laidTests := true, laidLooks := .later }
def LedgerSumsCardSaid : Prop := Claim7.holds Tryd.pinned (.plain (OpenSpec.ofChange ledgerSumsSpec)) ledgerSumsCard

/-- THE TIED CARD OF 'chattellaw15.LedgerNil'. -/
def ledgerNilCard : Claim7 := { stood := { row := ledgerNilRow, standIns := [], harness := (true, "bb5db08878af7844fc506e1d643f2190130c2cd1388a2e95794713584268556f"), looks := true }, kinds := [], alts := [], laidByText := true, laidKinds := [.funcs], laidTests := true, laidLooks := .later }
def LedgerNilCardSaid : Prop := Claim7.holds Tryd.pinned (.plain (OpenSpec.ofChange ledgerNilSpec)) ledgerNilCard

/-- THE TIED CARD OF 'chattellaw15.LedgerParts'. -/
def ledgerPartsCard : Claim7 := { stood := { row := ledgerPartsRow, standIns := [], harness := (true, "bb5db08878af7844fc506e1d643f2190130c2cd1388a2e95794713584268556f"), looks := true }, kinds := [], alts := [], laidByText := true, laidKinds := [.funcs], laidTests := true, laidLooks := .later }
def LedgerPartsCardSaid : Prop := Claim7.holds Tryd.pinned (.plain (OpenSpec.ofChange ledgerPartsSpec)) ledgerPartsCard

/-- THE TIED CARD OF 'chattellaw15.LedgerReplays'. -/
def ledgerReplaysCard : Claim7 := { stood := { row := ledgerReplaysRow, standIns := [], harness := (true, "bb5db08878af7844fc506e1d643f2190130c2cd1388a2e95794713584268556f"), looks := true }, kinds := [], alts := [], laidByText := true, laidKinds := [.funcs], laidTests := true, laidLooks := .later }
def LedgerReplaysCardSaid : Prop := Claim7.holds Tryd.pinned (.plain (OpenSpec.ofChange ledgerReplaysSpec)) ledgerReplaysCard

/-- THE TIED CARD OF 'chattellaw15.LedgerEven'. -/
def ledgerEvenCard : Claim7 := { stood := { row := ledgerEvenRow, standIns := [], harness := (true, "bb5db08878af7844fc506e1d643f2190130c2cd1388a2e95794713584268556f"), looks := true }, kinds := [], alts := [], laidByText := true, laidKinds := [.funcs], laidTests := true, laidLooks := .later }
def LedgerEvenCardSaid : Prop := Claim7.holds Tryd.pinned (.plain (OpenSpec.ofChange ledgerEvenSpec)) ledgerEvenCard

/-- THE TIED CARD OF 'chattellaw15.LedgerPlays'. -/
def ledgerPlaysCard : Claim7 := { stood := { row := ledgerPlaysRow, standIns := [], harness := (true, "bb5db08878af7844fc506e1d643f2190130c2cd1388a2e95794713584268556f"), looks := true }, kinds := [], alts := [], laidByText := true, laidKinds := [.funcs], laidTests := true, laidLooks := .later }
def LedgerPlaysCardSaid : Prop := Claim7.holds Tryd.pinned (.plain (OpenSpec.ofChange ledgerPlaysSpec)) ledgerPlaysCard

/-- THE SECOND FORM's CARD OF 'chattellaw15.LedgerSums'. -/
def ledgerSumsUptoCard : Claim7 := { stood := { row := ledgerSumsUptoRow, standIns := [], harness := (true, "bb5db08878af7844fc506e1d643f2190130c2cd1388a2e95794713584268556f"), looks := true }, kinds := [], alts := [], laidByText := true, laidKinds := [.funcs], laidTests := true, laidLooks := .later }
def LedgerSumsUptoCardSaid : Prop := Claim7.holds Tryd.pinned (.plain (OpenSpec.upto ledgerSumsSpec)) ledgerSumsUptoCard

/-- THE SECOND FORM's CARD OF 'chattellaw15.LedgerNil'. -/
def ledgerNilUptoCard : Claim7 := { stood := { row := ledgerNilUptoRow, standIns := [], harness := (true, "bb5db08878af7844fc506e1d643f2190130c2cd1388a2e95794713584268556f"), looks := true }, kinds := [], alts := [], laidByText := true, laidKinds := [.funcs], laidTests := true, laidLooks := .later }
def LedgerNilUptoCardSaid : Prop := Claim7.holds Tryd.pinned (.plain (OpenSpec.upto ledgerNilSpec)) ledgerNilUptoCard

/-- THE SECOND FORM's CARD OF 'chattellaw15.LedgerParts'. -/
def ledgerPartsUptoCard : Claim7 := { stood := { row := ledgerPartsUptoRow, standIns := [], harness := (true, "bb5db08878af7844fc506e1d643f2190130c2cd1388a2e95794713584268556f"), looks := true }, kinds := [], alts := [], laidByText := true, laidKinds := [.funcs], laidTests := true, laidLooks := .later }
def LedgerPartsUptoCardSaid : Prop := Claim7.holds Tryd.pinned (.plain (OpenSpec.upto ledgerPartsSpec)) ledgerPartsUptoCard

/-- THE SECOND FORM's CARD OF 'chattellaw15.LedgerReplays'. -/
def ledgerReplaysUptoCard : Claim7 := { stood := { row := ledgerReplaysUptoRow, standIns := [], harness := (true, "bb5db08878af7844fc506e1d643f2190130c2cd1388a2e95794713584268556f"), looks := true }, kinds := [], alts := [], laidByText := true, laidKinds := [.funcs], laidTests := true, laidLooks := .later }
def LedgerReplaysUptoCardSaid : Prop := Claim7.holds Tryd.pinned (.plain (OpenSpec.upto ledgerReplaysSpec)) ledgerReplaysUptoCard

/-- THE SECOND FORM's CARD OF 'chattellaw15.LedgerEven'. -/
def ledgerEvenUptoCard : Claim7 := { stood := { row := ledgerEvenUptoRow, standIns := [], harness := (true, "bb5db08878af7844fc506e1d643f2190130c2cd1388a2e95794713584268556f"), looks := true }, kinds := [], alts := [], laidByText := true, laidKinds := [.funcs], laidTests := true, laidLooks := .later }
def LedgerEvenUptoCardSaid : Prop := Claim7.holds Tryd.pinned (.plain (OpenSpec.upto ledgerEvenSpec)) ledgerEvenUptoCard

/-- THE SECOND FORM's CARD OF 'chattellaw15.LedgerPlays'. -/
def ledgerPlaysUptoCard : Claim7 := { stood := { row := ledgerPlaysUptoRow, standIns := [], harness := (true, "bb5db08878af7844fc506e1d643f2190130c2cd1388a2e95794713584268556f"), looks := true }, kinds := [], alts := [], laidByText := true, laidKinds := [.funcs], laidTests := true, laidLooks := .later }
def LedgerPlaysUptoCardSaid : Prop := Claim7.holds Tryd.pinned (.plain (OpenSpec.upto ledgerPlaysSpec)) ledgerPlaysUptoCard
end Rows
end Go.Proofs.YtpinhomalmknjaaDoor
