/-
  DERIVED. GIVEN WITH THE SEED: THE CARDS: each row of YtdjbnaleoohafaaGreatDoorRows.lean that lists a variable, with what it lists TIED to the program's text (the seventh form; the later family's looks); each row that meets fmt, with fmt's text TOLD by the authors' own Lean function (tested against real Go, not proved from fmt's source: count such statements apart). THE CARD IS WHAT COUNTS. Prove the row's statement (the work); the ties are given (YtdjbnaleoohafaaGreatDoorTie.lean); close each card by the builder's one call (the guide's Derived/Test/ToyasCard.lean, 'card_holds'). Laid BY PROGRAM, IN A SANDBOX (cutbox-door.mjs). By AI agents, Wed Nov 11 2026. No macro, syntax, notation, axiom, sorry.
-/
import Derived.Test.YtdjbnaleoohafaaGreatDoorRows
import GoSem.ClaimSeven
namespace Go.Proofs.YtdjbnaleoohafaaGreatDoor
namespace Rows

/-- THE TIED CARD OF 'lexiconlaw11.DatumReads'. -/
def datumReadsCard : Claim7 := { stood := { row := datumReadsRow, standIns := [], harness := (true, "851506e697b952d5596c6922abcb3bc67a4e2427e7e45568305b96b04c260d5b"), looks := true }, kinds := [], alts := [], laidByText := true, laidKinds := [.data, .data, .widerDeep, .widerDeep, .data, .data, .data, .data, .data, .data, .sentinel, .sentinel, .pinned, .pinned, .pinned], laidTests := true, laidLooks := .later }
def DatumReadsCardSaid : Prop := Claim7.holds Tryz.pinned (.plain (OpenSpec.ofChange datumReadsSpec)) datumReadsCard

/-- THE TIED CARD OF 'lexiconlaw11.DatumRough'. -/
def datumRoughCard : Claim7 := { stood := { row := datumRoughRow, standIns := [], harness := (true, "851506e697b952d5596c6922abcb3bc67a4e2427e7e45568305b96b04c260d5b"), looks := true }, kinds := [], alts := [], laidByText := true, laidKinds := [.data, .data, .widerDeep, .widerDeep, .data, .data, .data, .data, .data, .data, .sentinel, .sentinel, .pinned, .pinned, .pinned], laidTests := true, laidLooks := .later }
def DatumRoughCardSaid : Prop := Claim7.holds Tryz.pinned (.plain (OpenSpec.ofChange datumRoughSpec)) datumRoughCard

/-- THE TIED CARD OF 'lexiconlaw11.DatumBounds'. -/
def datumBoundsCard : Claim7 := { stood := { row := datumBoundsRow, standIns := [], harness := (true, "851506e697b952d5596c6922abcb3bc67a4e2427e7e45568305b96b04c260d5b"), looks := true }, kinds := [], alts := [], laidByText := true, laidKinds := [.data, .data, .widerDeep, .widerDeep, .data, .data, .data, .data, .data, .data, .sentinel, .sentinel, .pinned, .pinned, .pinned], laidTests := true, laidLooks := .later }
def DatumBoundsCardSaid : Prop := Claim7.holds Tryz.pinned (.plain (OpenSpec.ofChange datumBoundsSpec)) datumBoundsCard

/-- THE TIED CARD OF 'lexiconlaw11.DatumPuts'. -/
def datumPutsCard : Claim7 := { stood := { row := datumPutsRow, standIns := [], harness := (true, "851506e697b952d5596c6922abcb3bc67a4e2427e7e45568305b96b04c260d5b"), looks := true }, kinds := [], alts := [], laidByText := true, laidKinds := [.data, .data, .widerDeep, .widerDeep, .data, .data, .data, .data, .data, .data, .sentinel, .sentinel, .pinned, .pinned, .pinned], laidTests := true, laidLooks := .later }
def DatumPutsCardSaid : Prop := Claim7.holds Tryz.pinned (.plain (OpenSpec.ofChange datumPutsSpec)) datumPutsCard

/-- THE TIED CARD OF 'lexiconlaw11.DatumSame'. -/
def datumSameCard : Claim7 := { stood := { row := datumSameRow, standIns := [], harness := (true, "851506e697b952d5596c6922abcb3bc67a4e2427e7e45568305b96b04c260d5b"), looks := true }, kinds := [], alts := [], laidByText := true, laidKinds := [.data, .data, .widerDeep, .widerDeep, .data, .data, .data, .data, .data, .data, .sentinel, .sentinel, .pinned, .pinned, .pinned], laidTests := true, laidLooks := .later }
def DatumSameCardSaid : Prop := Claim7.holds Tryz.pinned (.plain (OpenSpec.ofChange datumSameSpec)) datumSameCard

/-- THE TIED CARD OF 'lexiconlaw11.DatumBack'. -/
def datumBackCard : Claim7 := { stood := { row := datumBackRow, standIns := [], harness := (true, "851506e697b952d5596c6922abcb3bc67a4e2427e7e45568305b96b04c260d5b"), looks := true }, kinds := [], alts := [], laidByText := true, laidKinds := [.data, .data, .widerDeep, .widerDeep, .data, .data, .data, .data, .data, .data, .sentinel, .sentinel, .pinned, .pinned, .pinned], laidTests := true, laidLooks := .later }
def DatumBackCardSaid : Prop := Claim7.holds Tryz.pinned (.plain (OpenSpec.ofChange datumBackSpec)) datumBackCard

/-- THE SECOND FORM's CARD OF 'lexiconlaw11.DatumReads'. -/
def datumReadsUptoCard : Claim7 := { stood := { row := datumReadsUptoRow, standIns := [], harness := (true, "851506e697b952d5596c6922abcb3bc67a4e2427e7e45568305b96b04c260d5b"), looks := true }, kinds := [], alts := [], laidByText := true, laidKinds := [.data, .data, .widerDeep, .widerDeep, .data, .data, .data, .data, .data, .data, .sentinel, .sentinel, .pinned, .pinned, .pinned], laidTests := true, laidLooks := .later }
def DatumReadsUptoCardSaid : Prop := Claim7.holds Tryz.pinned (.plain (OpenSpec.upto datumReadsSpec)) datumReadsUptoCard

/-- THE SECOND FORM's CARD OF 'lexiconlaw11.DatumRough'. -/
def datumRoughUptoCard : Claim7 := { stood := { row := datumRoughUptoRow, standIns := [], harness := (true, "851506e697b952d5596c6922abcb3bc67a4e2427e7e45568305b96b04c260d5b"), looks := true }, kinds := [], alts := [], laidByText := true, laidKinds := [.data, .data, .widerDeep, .widerDeep, .data, .data, .data, .data, .data, .data, .sentinel, .sentinel, .pinned, .pinned, .pinned], laidTests := true, laidLooks := .later }
def DatumRoughUptoCardSaid : Prop := Claim7.holds Tryz.pinned (.plain (OpenSpec.upto datumRoughSpec)) datumRoughUptoCard

/-- THE SECOND FORM's CARD OF 'lexiconlaw11.DatumBounds'. -/
def datumBoundsUptoCard : Claim7 := { stood := { row := datumBoundsUptoRow, standIns := [], harness := (true, "851506e697b952d5596c6922abcb3bc67a4e2427e7e45568305b96b04c260d5b"), looks := true }, kinds := [], alts := [], laidByText := true, laidKinds := [.data, .data, .widerDeep, .widerDeep, .data, .data, .data, .data, .data, .data, .sentinel, .sentinel, .pinned, .pinned, .pinned], laidTests := true, laidLooks := .later }
def DatumBoundsUptoCardSaid : Prop := Claim7.holds Tryz.pinned (.plain (OpenSpec.upto datumBoundsSpec)) datumBoundsUptoCard

/-- THE SECOND FORM's CARD OF 'lexiconlaw11.DatumPuts'. -/
def datumPutsUptoCard : Claim7 := { stood := { row := datumPutsUptoRow, standIns := [], harness := (true, "851506e697b952d5596c6922abcb3bc67a4e2427e7e45568305b96b04c260d5b"), looks := true }, kinds := [], alts := [], laidByText := true, laidKinds := [.data, .data, .widerDeep, .widerDeep, .data, .data, .data, .data, .data, .data, .sentinel, .sentinel, .pinned, .pinned, .pinned], laidTests := true, laidLooks := .later }
def DatumPutsUptoCardSaid : Prop := Claim7.holds Tryz.pinned (.plain (OpenSpec.upto datumPutsSpec)) datumPutsUptoCard

/-- THE SECOND FORM's CARD OF 'lexiconlaw11.DatumSame'. -/
def datumSameUptoCard : Claim7 := { stood := { row := datumSameUptoRow, standIns := [], harness := (true, "851506e697b952d5596c6922abcb3bc67a4e2427e7e45568305b96b04c260d5b"), looks := true }, kinds := [], alts := [], laidByText := true, laidKinds := [.data, .data, .widerDeep, .widerDeep, .data, .data, .data, .data, .data, .data, .sentinel, .sentinel, .pinned, .pinned, .pinned], laidTests := true, laidLooks := .later }
def DatumSameUptoCardSaid : Prop := Claim7.holds Tryz.pinned (.plain (OpenSpec.upto datumSameSpec)) datumSameUptoCard

/-- THE SECOND FORM's CARD OF 'lexiconlaw11.DatumBack'. -/
def datumBackUptoCard : Claim7 := { stood := { row := datumBackUptoRow, standIns := [], harness := (true, "851506e697b952d5596c6922abcb3bc67a4e2427e7e45568305b96b04c260d5b"), looks := true }, kinds := [], alts := [], laidByText := true, laidKinds := [.data, .data, .widerDeep, .widerDeep, .data, .data, .data, .data, .data, .data, .sentinel, .sentinel, .pinned, .pinned, .pinned], laidTests := true, laidLooks := .later }
def DatumBackUptoCardSaid : Prop := Claim7.holds Tryz.pinned (.plain (OpenSpec.upto datumBackSpec)) datumBackUptoCard
end Rows
end Go.Proofs.YtdjbnaleoohafaaGreatDoor
