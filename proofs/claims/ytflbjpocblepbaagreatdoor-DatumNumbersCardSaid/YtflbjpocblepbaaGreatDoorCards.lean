/-
  DERIVED. GIVEN WITH THE SEED: THE CARDS: each row of YtflbjpocblepbaaGreatDoorRows.lean that lists a variable, with what it lists TIED to the program's text (the seventh form; the later family's looks); each row that meets fmt, with fmt's text TOLD by the authors' own Lean function (tested against real Go, not proved from fmt's source: count such statements apart). THE CARD IS WHAT COUNTS. Prove the row's statement (the work); the ties are given (YtflbjpocblepbaaGreatDoorTie.lean); close each card by the builder's one call (the guide's Derived/Test/ToyasCard.lean, 'card_holds'). Laid BY PROGRAM, IN A SANDBOX (cutbox-door.mjs). By AI agents, Wed Nov 11 2026. No macro, syntax, notation, axiom, sorry.
-/
import Derived.Test.YtflbjpocblepbaaGreatDoorRows
import GoSem.ClaimSeven
namespace Go.Proofs.YtflbjpocblepbaaGreatDoor
namespace Rows

/-- THE TIED CARD OF 'lexiconlaw11.DatumNumbers'. -/
def datumNumbersCard : Claim7 := { stood := { row := datumNumbersRow, standIns := [], harness := (true, "e95611a07aae57eb0db79f85abbb9ceba22ac9fdf1175672c8cdb3b1135ca650"), looks := true }, kinds := [], alts := [], laidByText := true, laidKinds := [.data, .data, .widerDeep, .widerDeep, .data, .data, .data, .data, .data, .data, .sentinel, .sentinel, .pinned, .pinned, .pinned], laidTests := true, laidLooks := .later }
def DatumNumbersCardSaid : Prop := Claim7.holds Tryz.pinned (.plain (OpenSpec.ofChange datumNumbersSpec)) datumNumbersCard

/-- THE SECOND FORM's CARD OF 'lexiconlaw11.DatumNumbers'. -/
def datumNumbersUptoCard : Claim7 := { stood := { row := datumNumbersUptoRow, standIns := [], harness := (true, "e95611a07aae57eb0db79f85abbb9ceba22ac9fdf1175672c8cdb3b1135ca650"), looks := true }, kinds := [], alts := [], laidByText := true, laidKinds := [.data, .data, .widerDeep, .widerDeep, .data, .data, .data, .data, .data, .data, .sentinel, .sentinel, .pinned, .pinned, .pinned], laidTests := true, laidLooks := .later }
def DatumNumbersUptoCardSaid : Prop := Claim7.holds Tryz.pinned (.plain (OpenSpec.upto datumNumbersSpec)) datumNumbersUptoCard
end Rows
end Go.Proofs.YtflbjpocblepbaaGreatDoor
