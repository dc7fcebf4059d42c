/-
  DERIVED. GIVEN WITH THE SEED: THE CARDS: each row of YtfephppemgmokaaGreatDoorRows.lean that lists a variable, with what it lists TIED to the program's text (the seventh form; the later family's looks); each row that meets fmt, with fmt's text TOLD by the authors' own Lean function (tested against real Go, not proved from fmt's source: count such statements apart). THE CARD IS WHAT COUNTS. Prove the row's statement (the work); the ties are given (YtfephppemgmokaaGreatDoorTie.lean); close each card by the builder's one call (the guide's Derived/Test/ToyasCard.lean, 'card_holds'). Laid BY PROGRAM, IN A SANDBOX (cutbox-door.mjs). By AI agents, Wed Nov 11 2026. No macro, syntax, notation, axiom, sorry.
-/
import Derived.Test.YtfephppemgmokaaGreatDoorRows
import GoSem.ClaimSeven
namespace Go.Proofs.YtfephppemgmokaaGreatDoor
namespace Rows

/-- THE TIED CARD OF 'headlandlaw20.MovesDo'. -/
def movesDoCard : Claim7 := { stood := { row := movesDoRow, standIns := [], harness := (true, "9ca674c07f1377a9d42f0dc22e2971703e08db2663acc18ad0870b69bf6bcd73"), looks := true }, kinds := [], alts := [], laidByText := true, laidKinds := [.data, .data, .data], laidTests := true, laidLooks := .later }
def MovesDoCardSaid : Prop := Claim7.holds Tryz.pinned (.plain (OpenSpec.ofChange movesDoSpec)) movesDoCard

/-- THE TIED CARD OF 'headlandlaw20.MovesUndone'. -/
def movesUndoneCard : Claim7 := { stood := { row := movesUndoneRow, standIns := [], harness := (true, "9ca674c07f1377a9d42f0dc22e2971703e08db2663acc18ad0870b69bf6bcd73"), looks := true }, kinds := [], alts := [], laidByText := true, laidKinds := [.data, .data, .data], laidTests := true, laidLooks := .later }
def MovesUndoneCardSaid : Prop := Claim7.holds Tryz.pinned (.plain (OpenSpec.ofChange movesUndoneSpec)) movesUndoneCard

/-- THE SECOND FORM's CARD OF 'headlandlaw20.MovesDo'. -/
def movesDoUptoCard : Claim7 := { stood := { row := movesDoUptoRow, standIns := [], harness := (true, "9ca674c07f1377a9d42f0dc22e2971703e08db2663acc18ad0870b69bf6bcd73"), looks := true }, kinds := [], alts := [], laidByText := true, laidKinds := [.data, .data, .data], laidTests := true, laidLooks := .later }
def MovesDoUptoCardSaid : Prop := Claim7.holds Tryz.pinned (.plain (OpenSpec.upto movesDoSpec)) movesDoUptoCard

/-- THE SECOND FORM's CARD OF 'headlandlaw20.MovesUndone'. -/
def movesUndoneUptoCard : Claim7 := { stood := { row := movesUndoneUptoRow, standIns := [], harness := (true, "9ca674c07f1377a9d42f0dc22e2971703e08db2663acc18ad0870b69bf6bcd73"), looks := true }, kinds := [], alts := [], laidByText := true, laidKinds := [.data, .data, .data], laidTests := true, laidLooks := .later }
def MovesUndoneUptoCardSaid : Prop := Claim7.holds Tryz.pinned (.plain (OpenSpec.upto movesUndoneSpec)) movesUndoneUptoCard
end Rows
end Go.Proofs.YtfephppemgmokaaGreatDoor
