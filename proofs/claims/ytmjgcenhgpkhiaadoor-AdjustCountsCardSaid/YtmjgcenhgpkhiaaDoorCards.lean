/-
  DERIVED. GIVEN WITH THE SEED: THE CARDS: each row of YtmjgcenhgpkhiaaDoorRows.lean that lists a variable, with what it lists TIED to the program's text (the seventh form; the later family's looks); each row that meets fmt, with fmt's text TOLD by the authors' own Lean function (tested against real Go, not proved from fmt's source: count such statements apart). THE CARD IS WHAT COUNTS. Prove the row's statement (the work); the ties are given (YtmjgcenhgpkhiaaDoorTie.lean); close each card by the builder's one call (the guide's Derived/Test/ToyasCard.lean, 'card_holds'). Laid BY PROGRAM, IN A SANDBOX (cutbox-door.mjs). By AI agents, Wed Nov 11 2026. No macro, syntax, notation, axiom, sorry.
-/
import Derived.Test.YtmjgcenhgpkhiaaDoorRows
import GoSem.ClaimSeven
namespace Go.Proofs.YtmjgcenhgpkhiaaDoor
namespace Rows

/-- THE TIED CARD OF 'chattellaw16.AdjustEntries'. -/
def adjustEntriesCard : Claim7 := { stood := { row := adjustEntriesRow, standIns := [], harness := (true, "062764e8e4526972fb9251590ddec46fc77deab356f8ea01d90eaa77d06fb38e"), looks := true }, kinds := [], alts := [], laidByText := true, laidKinds := [.funcs], laidTests := true, laidLooks := .later }
def AdjustEntriesCardSaid : Prop := Claim7.holds Tryd.pinned (.plain (OpenSpec.ofChange adjustEntriesSpec)) adjustEntriesCard

/-- THE TIED CARD OF 'chattellaw16.AdjustBooks'. -/
def adjustBooksCard : Claim7 := { stood := { row := adjustBooksRow, standIns := [], harness := (true, "062764e8e4526972fb9251590ddec46fc77deab356f8ea01d90eaa77d06fb38e"), looks := true }, kinds := [], alts := [], laidByText := true, laidKinds := [.funcs], laidTests := true, laidLooks := .later }
def AdjustBooksCardSaid : Prop := Claim7.holds Tryd.pinned (.plain (OpenSpec.ofChange adjustBooksSpec)) adjustBooksCard

/-- THE TIED CARD OF 'chattellaw16.AdjustCounts'. -/
def adjustCountsCard : Claim7 := { stood := { row := adjustCountsRow, standIns := [], harness := (true, "062764e8e4526972fb9251590ddec46fc77deab356f8ea01d90eaa77d06fb38e"), looks := true }, kinds := [], alts := [], laidByText := true, laidKinds := [.funcs], laidTests := true, laidLooks := .later }
def AdjustCountsCardSaid : Prop := Claim7.holds Tryd.pinned (.plain (OpenSpec.ofChange adjustCountsSpec)) adjustCountsCard

/-- THE SECOND FORM's CARD OF 'chattellaw16.AdjustEntries'. -/
def adjustEntriesUptoCard : Claim7 := { stood := { row := adjustEntriesUptoRow, standIns := [], harness := (true, "062764e8e4526972fb9251590ddec46fc77deab356f8ea01d90eaa77d06fb38e"), looks := true }, kinds := [], alts := [], laidByText := true, laidKinds := [.funcs], laidTests := true, laidLooks := .later }
def AdjustEntriesUptoCardSaid : Prop := Claim7.holds Tryd.pinned (.plain (OpenSpec.upto adjustEntriesSpec)) adjustEntriesUptoCard

/-- THE SECOND FORM's CARD OF 'chattellaw16.AdjustBooks'. -/
def adjustBooksUptoCard : Claim7 := { stood := { row := adjustBooksUptoRow, standIns := [], harness := (true, "062764e8e4526972fb9251590ddec46fc77deab356f8ea01d90eaa77d06fb38e"), looks := true }, kinds := [], alts := [], laidByText := true, laidKinds := [.funcs], laidTests := true, laidLooks := .later }
def AdjustBooksUptoCardSaid : Prop := Claim7.holds Tryd.pinned (.plain (OpenSpec.upto adjustBooksSpec)) adjustBooksUptoCard

/-- THE SECOND FORM's CARD OF 'chattellaw16.AdjustCounts'. -/
def adjustCountsUptoCard : Claim7 := { stood := { row := adjustCountsUptoRow, standIns := [], harness := (true, "062764e8e4526972fb9251590ddec46fc77deab356f8ea01d90eaa77d06fb38e"), looks := true }, kinds := [], alts := [], laidByText := true, laidKinds := [.funcs], laidTests := true, laidLooks := .later }
def AdjustCountsUptoCardSaid : Prop := Claim7.holds Tryd.pinned (.plain (OpenSpec.upto adjustCountsSpec)) adjustCountsUptoCard
end Rows
end Go.Proofs.YtmjgcenhgpkhiaaDoor
