/-
  DERIVED. GIVEN WITH THE SEED: THE CARDS: each row of YtcbpoomhabigeaaGreatDoorRows.lean that lists a variable, with what it lists TIED to the program's text (the seventh form; the later family's looks); each row that meets fmt, with fmt's text TOLD by the authors' own Lean function (tested against real Go, not proved from fmt's source: count such statements apart). THE CARD IS WHAT COUNTS. Prove the row's statement (the work); the ties are given (YtcbpoomhabigeaaGreatDoorTie.lean); close each card by the builder's one call (the guide's Derived/Test/ToyasCard.lean, 'card_holds'). Laid BY PROGRAM, IN A SANDBOX (cutbox-door.mjs). By AI agents, Wed Nov 11 2026. No macro, syntax, notation, axiom, sorry.
-/
import Derived.Test.YtcbpoomhabigeaaGreatDoorRows
import GoSem.ClaimSeven
namespace Go.Proofs.YtcbpoomhabigeaaGreatDoor
namespace Rows

/-- THE TIED CARD OF 'laws.FnJournals'. -/
def fnJournalsCard : Claim7 := { stood := { row := fnJournalsRow, standIns := [], harness := (true, "6991477ce7e637184b5e0ec828d513e8d9ec367c5a33331842e19255d02aebc5"), looks := true }, kinds := [], alts := [], laidByText := true, laidKinds := [.data, .data, .data, .sentinel, .sentinel], laidTests := true, laidLooks := .later }
def FnJournalsCardSaid : Prop := Claim7.holds Tryz.pinned (.plain (OpenSpec.ofChange fnJournalsSpec)) fnJournalsCard

/-- THE TIED CARD OF 'laws.FnJournalsCut'. -/
def fnJournalsCutCard : Claim7 := { stood := { row := fnJournalsCutRow, standIns := [], harness := (true, "6991477ce7e637184b5e0ec828d513e8d9ec367c5a33331842e19255d02aebc5"), looks := true }, kinds := [], alts := [], laidByText := true, laidKinds := [.data, .data, .data, .sentinel, .sentinel], laidTests := true, laidLooks := .later }
def FnJournalsCutCardSaid : Prop := Claim7.holds Tryz.pinned (.plain (OpenSpec.ofChange fnJournalsCutSpec)) fnJournalsCutCard

/-- THE TIED CARD OF 'laws.FnSnaps'. -/
def fnSnapsCard : Claim7 := { stood := { row := fnSnapsRow, standIns := [], harness := (true, "6991477ce7e637184b5e0ec828d513e8d9ec367c5a33331842e19255d02aebc5"), looks := true }, kinds := [], alts := [], laidByText := true, laidKinds := [.data, .data, .data, .sentinel, .sentinel], laidTests := true, laidLooks := .later }
def FnSnapsCardSaid : Prop := Claim7.holds Tryz.pinned (.plain (OpenSpec.ofChange fnSnapsSpec)) fnSnapsCard

/-- THE TIED CARD OF 'laws.FnSnapsCut'. -/
def fnSnapsCutCard : Claim7 := { stood := { row := fnSnapsCutRow, standIns := [], harness := (true, "6991477ce7e637184b5e0ec828d513e8d9ec367c5a33331842e19255d02aebc5"), looks := true }, kinds := [], alts := [], laidByText := true, laidKinds := [.data, .data, .data, .sentinel, .sentinel], laidTests := true, laidLooks := .later }
def FnSnapsCutCardSaid : Prop := Claim7.holds Tryz.pinned (.plain (OpenSpec.ofChange fnSnapsCutSpec)) fnSnapsCutCard

/-- THE SECOND FORM's CARD OF 'laws.FnJournals'. -/
def fnJournalsUptoCard : Claim7 := { stood := { row := fnJournalsUptoRow, standIns := [], harness := (true, "6991477ce7e637184b5e0ec828d513e8d9ec367c5a33331842e19255d02aebc5"), looks := true }, kinds := [], alts := [], laidByText := true, laidKinds := [.data, .data, .data, .sentinel, .sentinel], laidTests := true, laidLooks := .later }
def FnJournalsUptoCardSaid : Prop := Claim7.holds Tryz.pinned (.plain (OpenSpec.upto fnJournalsSpec)) fnJournalsUptoCard

/-- THE SECOND FORM's CARD OF 'laws.FnJournalsCut'. -/
def fnJournalsCutUptoCard : Claim7 := { stood := { row := fnJournalsCutUptoRow, standIns := [], harness := (true, "6991477ce7e637184b5e0ec828d513e8d9ec367c5a33331842e19255d02aebc5"), looks := true }, kinds := [], alts := [], laidByText := true, laidKinds := [.data, .data, .data, .sentinel, .sentinel], laidTests := true, laidLooks := .later }
def FnJournalsCutUptoCardSaid : Prop := Claim7.holds Tryz.pinned (.plain (OpenSpec.upto fnJournalsCutSpec)) fnJournalsCutUptoCard

/-- THE SECOND FORM's CARD OF 'laws.FnSnaps'. -/
def fnSnapsUptoCard : Claim7 := { stood := { row := fnSnapsUptoRow, standIns := [], harness := (true, "6991477ce7e637184b5e0ec828d513e8d9ec367c5a33331842e19255d02aebc5"), looks := true }, kinds := [], alts := [], laidByText := true, laidKinds := [.data, .data, .data, .sentinel, .sentinel], laidTests := true, laidLooks := .later }
def FnSnapsUptoCardSaid : Prop := Claim7.holds Tryz.pinned (.plain (OpenSpec.upto fnSnapsSpec)) fnSnapsUptoCard

/-- THE SECOND FORM's CARD OF 'laws.FnSnapsCut'. -/
def fnSnapsCutUptoCard : Claim7 := { stood := { row := fnSnapsCutUptoRow, standIns := [], harness := (true, "6991477ce7e637184b5e0ec828d513e8d9ec367c5a33331842e19255d02aebc5"), looks := true }, kinds := [], alts := [], laidByText := true, laidKinds := [.data, .data, .data, .sentinel, .sentinel], laidTests := true, laidLooks := .later }
def FnSnapsCutUptoCardSaid : Prop := Claim7.holds Tryz.pinned (.plain (OpenSpec.upto fnSnapsCutSpec)) fnSnapsCutUptoCard
end Rows
end Go.Proofs.YtcbpoomhabigeaaGreatDoor
