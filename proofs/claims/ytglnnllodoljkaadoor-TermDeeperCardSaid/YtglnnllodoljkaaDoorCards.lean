/-
  DERIVED. GIVEN WITH THE SEED: THE CARDS: each row of YtglnnllodoljkaaDoorRows.lean that lists a variable, with what it lists TIED to the program's text (the seventh form; the later family's looks); each row that meets fmt, with fmt's text TOLD by the authors' own Lean function (tested against real Go, not proved from fmt's source: count such statements apart). THE CARD IS WHAT COUNTS. Prove the row's statement (the work); the ties are given (YtglnnllodoljkaaDoorTie.lean); close each card by the builder's one call (the guide's Derived/Test/ToyasCard.lean, 'card_holds'). Laid BY PROGRAM, IN A SANDBOX (cutbox-door.mjs). By AI agents, Wed Nov 11 2026. No macro, syntax, notation, axiom, sorry.
-/
import Derived.Test.YtglnnllodoljkaaDoorRows
import GoSem.ClaimSeven
namespace Go.Proofs.YtglnnllodoljkaaDoor
namespace Rows

/-- THE TIED CARD OF 'chattellaw05.TermSizes'. -/
def termSizesCard : Claim7 := { stood := { row := termSizesRow, standIns := [], harness := (true, "f8b607608763f2b40646c66eae99878168247beaa371d0dea4cb7f6a39e540fd"), looks := false }, kinds := [], alts := [], laidByText := true, laidKinds := [.data], laidTests := true, laidLooks := .later }
def TermSizesCardSaid : Prop := Claim7.holds Tryd.pinned (.plain (OpenSpec.ofChange termSizesSpec)) termSizesCard

/-- THE TIED CARD OF 'chattellaw05.TermChecks'. -/
def termChecksCard : Claim7 := { stood := { row := termChecksRow, standIns := [], harness := (true, "f8b607608763f2b40646c66eae99878168247beaa371d0dea4cb7f6a39e540fd"), looks := false }, kinds := [], alts := [], laidByText := true, laidKinds := [.data], laidTests := true, laidLooks := .later }
def TermChecksCardSaid : Prop := Claim7.holds Tryd.pinned (.plain (OpenSpec.ofChange termChecksSpec)) termChecksCard

/-- THE TIED CARD OF 'chattellaw05.TermOps'. -/
def termOpsCard : Claim7 := { stood := { row := termOpsRow, standIns := [], harness := (true, "f8b607608763f2b40646c66eae99878168247beaa371d0dea4cb7f6a39e540fd"), looks := false }, kinds := [], alts := [], laidByText := true, laidKinds := [.data], laidTests := true, laidLooks := .later }
def TermOpsCardSaid : Prop := Claim7.holds Tryd.pinned (.plain (OpenSpec.ofChange termOpsSpec)) termOpsCard

/-- THE TIED CARD OF 'chattellaw05.TermInside'. -/
def termInsideCard : Claim7 := { stood := { row := termInsideRow, standIns := [], harness := (true, "f8b607608763f2b40646c66eae99878168247beaa371d0dea4cb7f6a39e540fd"), looks := false }, kinds := [], alts := [], laidByText := true, laidKinds := [.data], laidTests := true, laidLooks := .later }
def TermInsideCardSaid : Prop := Claim7.holds Tryd.pinned (.plain (OpenSpec.ofChange termInsideSpec)) termInsideCard

/-- THE TIED CARD OF 'chattellaw05.TermJoins'. -/
def termJoinsCard : Claim7 := { stood := { row := termJoinsRow, standIns := [], harness := (true, "f8b607608763f2b40646c66eae99878168247beaa371d0dea4cb7f6a39e540fd"), looks := false }, kinds := [], alts := [], laidByText := true, laidKinds := [.data], laidTests := true, laidLooks := .later }
def TermJoinsCardSaid : Prop := Claim7.holds Tryd.pinned (.plain (OpenSpec.ofChange termJoinsSpec)) termJoinsCard

/-- THE TIED CARD OF 'chattellaw05.TermTells'. -/
def termTellsCard : Claim7 := { stood := { row := termTellsRow, standIns := [], harness := (true, "f8b607608763f2b40646c66eae99878168247beaa371d0dea4cb7f6a39e540fd"), looks := false }, kinds := [], alts := [], laidByText := true, laidKinds := [.data], laidTests := true, laidLooks := .later }
def TermTellsCardSaid : Prop := Claim7.holds Tryd.pinned (.plain (OpenSpec.ofChange termTellsSpec)) termTellsCard

/-- THE TIED CARD OF 'chattellaw05.TermDeeper'. -/
def termDeeperCard : Claim7 := { stood := { row := termDeeperRow, standIns := [], harness := (true, "f8b607608763f2b40646c66eae99878168247beaa371d0dea4cb7f6a39e540fd"), looks := false }, kinds := [], alts := [], laidByText := true, laidKinds := [.data], laidTests := true, laidLooks := .later }
def TermDeeperCardSaid : Prop := Claim7.holds Tryd.pinned (.plain (OpenSpec.ofChange termDeeperSpec)) termDeeperCard

/-- THE SECOND FORM's CARD OF 'chattellaw05.TermSizes'. -/
def termSizesUptoCard : Claim7 := { stood := { row := termSizesUptoRow, standIns := [], harness := (true, "f8b607608763f2b40646c66eae99878168247beaa371d0dea4cb7f6a39e540fd"), looks := false }, kinds := [], alts := [], laidByText := true, laidKinds := [.data], laidTests := true, laidLooks := .later }
def TermSizesUptoCardSaid : Prop := Claim7.holds Tryd.pinned (.plain (OpenSpec.upto termSizesSpec)) termSizesUptoCard

/-- THE SECOND FORM's CARD OF 'chattellaw05.TermChecks'. -/
def termChecksUptoCard : Claim7 := { stood := { row := termChecksUptoRow, standIns := [], harness := (true, "f8b607608763f2b40646c66eae99878168247beaa371d0dea4cb7f6a39e540fd"), looks := false }, kinds := [], alts := [], laidByText := true, laidKinds := [.data], laidTests := true, laidLooks := .later }
def TermChecksUptoCardSaid : Prop := Claim7.holds Tryd.pinned (.plain (OpenSpec.upto termChecksSpec)) termChecksUptoCard

/-- THE SECOND FORM's CARD OF 'chattellaw05.TermOps'. -/
def termOpsUptoCard : Claim7 := { stood := { row := termOpsUptoRow, standIns := [], harness := (true, "f8b607608763f2b40646c66eae99878168247beaa371d0dea4cb7f6a39e540fd"), looks := false }, kinds := [], alts := [], laidByText := true, laidKinds := [.data], laidTests := true, laidLooks := .later }
def TermOpsUptoCardSaid : Prop := Claim7.holds Tryd.pinned (.plain (OpenSpec.upto termOpsSpec)) termOpsUptoCard

/-- THE SECOND FORM's CARD OF 'chattellaw05.TermInside'. -/
def termInsideUptoCard : Claim7 := { stood := { row := termInsideUptoRow, standIns := [], harness := (true, "f8b607608763f2b40646c66eae99878168247beaa371d0dea4cb7f6a39e540fd"), looks := false }, kinds := [], alts := [], laidByText := true, laidKinds := [.data], laidTests := true, laidLooks := .later }
def TermInsideUptoCardSaid : Prop := Claim7.holds Tryd.pinned (.plain (OpenSpec.upto termInsideSpec)) termInsideUptoCard

/-- THE SECOND FORM's CARD OF 'chattellaw05.TermJoins'. -/
def termJoinsUptoCard : Claim7 := { stood := { row := termJoinsUptoRow, standIns := [], harness := (true, "f8b607608763f2b40646c66eae99878168247beaa371d0dea4cb7f6a39e540fd"), looks := false }, kinds := [], alts := [], laidByText := true, laidKinds := [.data], laidTests := true, laidLooks := .later }
def TermJoinsUptoCardSaid : Prop := Claim7.holds Tryd.pinned (.plain (OpenSpec.upto termJoinsSpec)) termJoinsUptoCard

/-- THE SECOND FORM's CARD OF 'chattellaw05.TermTells'. -/
def termTellsUptoCard : Claim7 := { stood := { row := termTellsUptoRow, standIns := [], harness := (true, "f8b607608763f2b40646c66eae99878168247beaa371d0dea4cb7f6a39e540fd"), looks := false }, kinds := [], alts := [], laidByText := true, laidKinds := [.data], laidTests := true, laidLooks := .later }
def TermTellsUptoCardSaid : Prop := Claim7.holds Tryd.pinned (.plain (OpenSpec.upto termTellsSpec)) termTellsUptoCard

/-- THE SECOND FORM's CARD OF 'chattellaw05.TermDeeper'. -/
def termDeeperUptoCard : Claim7 := { stood := { row := termDeeperUptoRow, standIns := [], harness := (true, "f8b607608763f2b40646c66eae99878168247beaa371d0dea4cb7f6a39e540fd"), looks := false }, kinds := [], alts := [], laidByText := true, laidKinds := [.data], laidTests := true, laidLooks := .later }
def TermDeeperUptoCardSaid : Prop := Claim7.holds Tryd.pinned (.plain (OpenSpec.upto termDeeperSpec)) termDeeperUptoCard
end Rows
end Go.Proofs.YtglnnllodoljkaaDoor
