/-
  DERIVED. GIVEN WITH THE SEED: THE CARDS: each row of YtdognapppnfpiaaDoorRows.lean that lists a variable, with what it lists TIED to the program's text (the seventh form; the later family's looks); each row that meets fmt, with fmt's text TOLD by the authors' own Lean function (tested against real Go, not proved from fmt's source: count such statements apart). THE CARD IS WHAT COUNTS. Prove the row's statement (the work); the ties are given (YtdognapppnfpiaaDoorTie.lean); close each card by the builder's one call (the guide's Derived/Test/ToyasCard.lean, 'card_holds'). Laid BY PROGRAM, IN A SANDBOX (cutbox-door.mjs). By AI agents, Wed Nov 11 2026. No macro, syntax, notation, axiom, sorry.
-/
import Derived.Test.YtdognapppnfpiaaDoorRows
import GoSem.ClaimSeven
namespace Go.Proofs.YtdognapppnfpiaaDoor
namespace Rows

/-- THE TIED CARD OF 'rhizomelaw10.StrataLayers'. -/
def strataLayersCard : Claim7 := { stood := { row := strataLayersRow, standIns := [], harness := (true, "91e126c84aff4f1b6f978a95262981a70e7dc86f41ea0fb2838916410462906f"), looks := false }, kinds := [], alts := [], laidByText := true, laidKinds := [.data, .pinned], laidTests := true, laidLooks := .later }
def StrataLayersCardSaid : Prop := Claim7.holds Tryd.pinned (.plain (OpenSpec.ofChange strataLayersSpec)) strataLayersCard

/-- THE TIED CARD OF 'rhizomelaw10.StrataOrder'. -/
def strataOrderCard : Claim7 := { stood := { row := strataOrderRow, standIns := [], harness := (true, "91e126c84aff4f1b6f978a95262981a70e7dc86f41ea0fb2838916410462906f"), looks := false }, kinds := [], alts := [], laidByText := true, laidKinds := [.data, .pinned], laidTests := true, laidLooks := .later }
def StrataOrderCardSaid : Prop := Claim7.holds Tryd.pinned (.plain (OpenSpec.ofChange strataOrderSpec)) strataOrderCard

/-- THE TIED CARD OF 'rhizomelaw10.StrataCircle'. -/
def strataCircleCard : Claim7 := { stood := { row := strataCircleRow, standIns := [], harness := (true, "91e126c84aff4f1b6f978a95262981a70e7dc86f41ea0fb2838916410462906f"), looks := false }, kinds := [], alts := [], laidByText := true, laidKinds := [.data, .pinned], laidTests := true, laidLooks := .later }
def StrataCircleCardSaid : Prop := Claim7.holds Tryd.pinned (.plain (OpenSpec.ofChange strataCircleSpec)) strataCircleCard

/-- THE SECOND FORM's CARD OF 'rhizomelaw10.StrataLayers'. -/
def strataLayersUptoCard : Claim7 := { stood := { row := strataLayersUptoRow, standIns := [], harness := (true, "91e126c84aff4f1b6f978a95262981a70e7dc86f41ea0fb2838916410462906f"), looks := false }, kinds := [], alts := [], laidByText := true, laidKinds := [.data, .pinned], laidTests := true, laidLooks := .later }
def StrataLayersUptoCardSaid : Prop := Claim7.holds Tryd.pinned (.plain (OpenSpec.upto strataLayersSpec)) strataLayersUptoCard

/-- THE SECOND FORM's CARD OF 'rhizomelaw10.StrataOrder'. -/
def strataOrderUptoCard : Claim7 := { stood := { row := strataOrderUptoRow, standIns := [], harness := (true, "91e126c84aff4f1b6f978a95262981a70e7dc86f41ea0fb2838916410462906f"), looks := false }, kinds := [], alts := [], laidByText := true, laidKinds := [.data, .pinned], laidTests := true, laidLooks := .later }
def StrataOrderUptoCardSaid : Prop := Claim7.holds Tryd.pinned (.plain (OpenSpec.upto strataOrderSpec)) strataOrderUptoCard

/-- THE SECOND FORM's CARD OF 'rhizomelaw10.StrataCircle'. -/
def strataCircleUptoCard : Claim7 := { stood := { row := strataCircleUptoRow, standIns := [], harness := (true, "91e126c84aff4f1b6f978a95262981a70e7dc86f41ea0fb2838916410462906f"), looks := false }, kinds := [], alts := [], laidByText := true, laidKinds := [.data, .pinned], laidTests := true, laidLooks := .later }
def StrataCircleUptoCardSaid : Prop := Claim7.holds Tryd.pinned (.plain (OpenSpec.upto strataCircleSpec)) strataCircleUptoCard
end Rows
end Go.Proofs.YtdognapppnfpiaaDoor
