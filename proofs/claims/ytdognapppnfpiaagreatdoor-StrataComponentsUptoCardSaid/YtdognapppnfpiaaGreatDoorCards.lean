/-
  DERIVED. GIVEN WITH THE SEED: THE CARDS: each row of YtdognapppnfpiaaGreatDoorRows.lean that lists a variable, with what it lists TIED to the program's text (the seventh form; the later family's looks); each row that meets fmt, with fmt's text TOLD by the authors' own Lean function (tested against real Go, not proved from fmt's source: count such statements apart). THE CARD IS WHAT COUNTS. Prove the row's statement (the work); the ties are given (YtdognapppnfpiaaGreatDoorTie.lean); close each card by the builder's one call (the guide's Derived/Test/ToyasCard.lean, 'card_holds'). Laid BY PROGRAM, IN A SANDBOX (cutbox-door.mjs). By AI agents, Wed Nov 11 2026. No macro, syntax, notation, axiom, sorry.
-/
import Derived.Test.YtdognapppnfpiaaGreatDoorRows
import GoSem.ClaimSeven
namespace Go.Proofs.YtdognapppnfpiaaGreatDoor
namespace Rows

/-- THE TIED CARD OF 'rhizomelaw10.StrataComponents'. -/
def strataComponentsCard : Claim7 := { stood := { row := strataComponentsRow, standIns := [], harness := (true, "a20cdbf4583ac0da18efd488eb8e17e263979afed5a90291053e15e435002b9d"), looks := false }, kinds := [], alts := [], laidByText := true, laidKinds := [.data, .pinned], laidTests := true, laidLooks := .later }
def StrataComponentsCardSaid : Prop := Claim7.holds Tryz.pinned (.plain (OpenSpec.ofChange strataComponentsSpec)) strataComponentsCard

/-- THE SECOND FORM's CARD OF 'rhizomelaw10.StrataComponents'. -/
def strataComponentsUptoCard : Claim7 := { stood := { row := strataComponentsUptoRow, standIns := [], harness := (true, "a20cdbf4583ac0da18efd488eb8e17e263979afed5a90291053e15e435002b9d"), looks := false }, kinds := [], alts := [], laidByText := true, laidKinds := [.data, .pinned], laidTests := true, laidLooks := .later }
def StrataComponentsUptoCardSaid : Prop := Claim7.holds Tryz.pinned (.plain (OpenSpec.upto strataComponentsSpec)) strataComponentsUptoCard
end Rows
end Go.Proofs.YtdognapppnfpiaaGreatDoor
