/-
  DERIVED. GIVEN WITH THE SEED: THE CARDS: each row of YtahihapgbcoanaaDoorRows.lean that lists a variable, with what it lists TIED to the program's text (the seventh form; the later family's looks); each row that meets fmt, with fmt's text TOLD by the authors' own Lean function (tested against real Go, not proved from fmt's source: count such statements apart). THE CARD IS WHAT COUNTS. Prove the row's statement (the work); the ties are given (YtahihapgbcoanaaDoorTie.lean); close each card by the builder's one call (the guide's Derived/Test/ToyasCard.lean, 'card_holds'). Laid BY PROGRAM, IN A SANDBOX (cutbox-door.mjs). By AI agents, Wed Nov 11 2026. No macro, syntax, notation, axiom, sorry.
-/
import Derived.Test.YtahihapgbcoanaaDoorRows
import GoSem.ClaimSeven
namespace Go.Proofs.YtahihapgbcoanaaDoor
namespace Rows

/-- THE TIED CARD OF 'ferlaw.DominoTurns'. -/
def dominoTurnsCard : Claim7 := { stood := { row := dominoTurnsRow, standIns := [], harness := (true, "e8950627fb4adc428ec01df17da18499b5c9c34fd9b70ee190b337afa9433556"), looks := false }, kinds := [], alts := [], laidByText := true, laidKinds := [.data, .pinned], laidTests := true, laidLooks := .later }
def DominoTurnsCardSaid : Prop := Claim7.holds Tryd.pinned (.plain (OpenSpec.ofChange dominoTurnsSpec)) dominoTurnsCard

/-- THE TIED CARD OF 'ferkeep.DominoBack'. -/
def dominoBackCard : Claim7 := { stood := { row := dominoBackRow, standIns := [], harness := (true, "e8950627fb4adc428ec01df17da18499b5c9c34fd9b70ee190b337afa9433556"), looks := false }, kinds := [], alts := [], laidByText := true, laidKinds := [.data, .pinned], laidTests := true, laidLooks := .later }
def DominoBackCardSaid : Prop := Claim7.holds Tryd.pinned (.plain (OpenSpec.ofChange dominoBackSpec)) dominoBackCard

/-- THE TIED CARD OF 'ferlaw.DominoSays'. -/
def dominoSaysCard : Claim7 := { stood := { row := dominoSaysRow, standIns := [], harness := (true, "e8950627fb4adc428ec01df17da18499b5c9c34fd9b70ee190b337afa9433556"), looks := false }, kinds := [], alts := [], laidByText := true, laidKinds := [.data, .pinned], laidTests := true, laidLooks := .later }
def DominoSaysCardSaid : Prop := Claim7.holds Tryd.pinned (.plain (OpenSpec.ofChange dominoSaysSpec)) dominoSaysCard

/-- THE TIED CARD OF 'ferlaw.DominoShuffles'. -/
def dominoShufflesCard : Claim7 := { stood := { row := dominoShufflesRow, standIns := [], harness := (true, "e8950627fb4adc428ec01df17da18499b5c9c34fd9b70ee190b337afa9433556"), looks := false }, kinds := [], alts := [], laidByText := true, laidKinds := [.data, .pinned], laidTests := true, laidLooks := .later }
def DominoShufflesCardSaid : Prop := Claim7.holds Tryd.pinned (.plain (OpenSpec.ofChange dominoShufflesSpec)) dominoShufflesCard

/-- THE TIED CARD OF 'ferkeep.DominoAztec'. -/
def dominoAztecCard : Claim7 := { stood := { row := dominoAztecRow, standIns := [], harness := (true, "e8950627fb4adc428ec01df17da18499b5c9c34fd9b70ee190b337afa9433556"), looks := false }, kinds := [], alts := [], laidByText := true, laidKinds := [.data, .pinned], laidTests := true, laidLooks := .later }
def DominoAztecCardSaid : Prop := Claim7.holds Tryd.pinned (.plain (OpenSpec.ofChange dominoAztecSpec)) dominoAztecCard

/-- THE SECOND FORM's CARD OF 'ferlaw.DominoTurns'. -/
def dominoTurnsUptoCard : Claim7 := { stood := { row := dominoTurnsUptoRow, standIns := [], harness := (true, "e8950627fb4adc428ec01df17da18499b5c9c34fd9b70ee190b337afa9433556"), looks := false }, kinds := [], alts := [], laidByText := true, laidKinds := [.data, .pinned], laidTests := true, laidLooks := .later }
def DominoTurnsUptoCardSaid : Prop := Claim7.holds Tryd.pinned (.plain (OpenSpec.upto dominoTurnsSpec)) dominoTurnsUptoCard

/-- THE SECOND FORM's CARD OF 'ferkeep.DominoBack'. -/
def dominoBackUptoCard : Claim7 := { stood := { row := dominoBackUptoRow, standIns := [], harness := (true, "e8950627fb4adc428ec01df17da18499b5c9c34fd9b70ee190b337afa9433556"), looks := false }, kinds := [], alts := [], laidByText := true, laidKinds := [.data, .pinned], laidTests := true, laidLooks := .later }
def DominoBackUptoCardSaid : Prop := Claim7.holds Tryd.pinned (.plain (OpenSpec.upto dominoBackSpec)) dominoBackUptoCard

/-- THE SECOND FORM's CARD OF 'ferlaw.DominoSays'. -/
def dominoSaysUptoCard : Claim7 := { stood := { row := dominoSaysUptoRow, standIns := [], harness := (true, "e8950627fb4adc428ec01df17da18499b5c9c34fd9b70ee190b337afa9433556"), looks := false }, kinds := [], alts := [], laidByText := true, laidKinds := [.data, .pinned], laidTests := true, laidLooks := .later }
def DominoSaysUptoCardSaid : Prop := Claim7.holds Tryd.pinned (.plain (OpenSpec.upto dominoSaysSpec)) dominoSaysUptoCard

/-- THE SECOND FORM's CARD OF 'ferlaw.DominoShuffles'. -/
def dominoShufflesUptoCard : Claim7 := { stood := { row := dominoShufflesUptoRow, standIns := [], harness := (true, "e8950627fb4adc428ec01df17da18499b5c9c34fd9b70ee190b337afa9433556"), looks := false }, kinds := [], alts := [], laidByText := true, laidKinds := [.data, .pinned], laidTests := true, laidLooks := .later }
def DominoShufflesUptoCardSaid : Prop := Claim7.holds Tryd.pinned (.plain (OpenSpec.upto dominoShufflesSpec)) dominoShufflesUptoCard

/-- THE SECOND FORM's CARD OF 'ferkeep.DominoAztec'. -/
def dominoAztecUptoCard : Claim7 := { stood := { row := dominoAztecUptoRow, standIns := [], harness := (true, "e8950627fb4adc428ec01df17da18499b5c9c34fd9b70ee190b337afa9433556"), looks := false }, kinds := [], alts := [], laidByText := true, laidKinds := [.data, .pinned], laidTests := true, laidLooks := .later }
def DominoAztecUptoCardSaid : Prop := Claim7.holds Tryd.pinned (.plain (OpenSpec.upto dominoAztecSpec)) dominoAztecUptoCard
end Rows
end Go.Proofs.YtahihapgbcoanaaDoor
