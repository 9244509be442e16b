/-
  DERIVED. GIVEN WITH THE SEED: THE CARDS: each row of YtmmgjbjmmipobaaGreatDoorRows.lean that lists a variable, with what it lists TIED to the program's text (the seventh form; the later family's looks); each row that meets fmt, with fmt's text TOLD by the authors' own Lean function (tested against real Go, not proved from fmt's source: count such statements apart). THE CARD IS WHAT COUNTS. Prove the row's statement (the work); the ties are given (YtmmgjbjmmipobaaGreatDoorTie.lean); close each card by the builder's one call (the guide's Derived/Test/ToyasCard.lean, 'card_holds'). Laid BY PROGRAM, IN A SANDBOX (cutbox-door.mjs). By AI agents, Wed Nov 11 2026. No macro, syntax, notation, axiom, sorry.
-/
import Derived.Test.YtmmgjbjmmipobaaGreatDoorRows
import GoSem.ClaimSeven
namespace Go.Proofs.YtmmgjbjmmipobaaGreatDoor
namespace Rows

/-- THE TIED CARD OF 'laws.FnExactPerform'. -/
def fnExactPerformCard : Claim7 := { stood := { row := fnExactPerformRow, standIns := [], harness := (true, "dd5a696b4d431a060e32cb994e72ce8b69345dbcd982f7586d7d7fe61fd7dda9"), looks := false }, kinds := [], alts := [], laidByText := true, laidKinds := [.data, .data, .data], laidTests := true, laidLooks := .later }
def FnExactPerformCardSaid : Prop := Claim7.holds Tryz.pinned (.plain (OpenSpec.ofChange fnExactPerformSpec)) fnExactPerformCard

/-- THE SECOND FORM's CARD OF 'laws.FnExactPerform'. -/
def fnExactPerformUptoCard : Claim7 := { stood := { row := fnExactPerformUptoRow, standIns := [], harness := (true, "dd5a696b4d431a060e32cb994e72ce8b69345dbcd982f7586d7d7fe61fd7dda9"), looks := false }, kinds := [], alts := [], laidByText := true, laidKinds := [.data, .data, .data], laidTests := true, laidLooks := .later }
def FnExactPerformUptoCardSaid : Prop := Claim7.holds Tryz.pinned (.plain (OpenSpec.upto fnExactPerformSpec)) fnExactPerformUptoCard
end Rows
end Go.Proofs.YtmmgjbjmmipobaaGreatDoor
