/-
  DERIVED. GIVEN WITH THE SEED: THE CARDS: each row of YtmmbedlegmbppaaGreatDoorRows.lean that lists a variable, with what it lists TIED to the program's text (the seventh form; the later family's looks); each row that meets fmt, with fmt's text TOLD by the authors' own Lean function (tested against real Go, not proved from fmt's source: count such statements apart). THE CARD IS WHAT COUNTS. Prove the row's statement (the work); the ties are given (YtmmbedlegmbppaaGreatDoorTie.lean); close each card by the builder's one call (the guide's Derived/Test/ToyasCard.lean, 'card_holds'). Laid BY PROGRAM, IN A SANDBOX (cutbox-door.mjs). By AI agents, Wed Nov 11 2026. No macro, syntax, notation, axiom, sorry.
-/
import Derived.Test.YtmmbedlegmbppaaGreatDoorRows
import GoSem.ClaimSeven
namespace Go.Proofs.YtmmbedlegmbppaaGreatDoor
namespace Rows

/-- THE TIED CARD OF 'scullerylaw07.ChunkTells'. -/
def chunkTellsCard : Claim7 := { stood := { row := chunkTellsRow, standIns := [], harness := (true, "68cadc085080a9d329630215722b1c66b3830e236a81c3222405a2a356f2d6be"), looks := true }, kinds := [], alts := [], laidByText := true, laidKinds := [.data, .data, .data, .data, .sentinel, .sentinel, .pinned], laidTests := true, laidLooks := .later }
def ChunkTellsCardSaid : Prop := Claim7.holds Tryz.pinned (.plain (OpenSpec.ofChange chunkTellsSpec)) chunkTellsCard

/-- THE TIED CARD OF 'scullerylaw16.StoreDoes'. -/
def storeDoesCard : Claim7 := { stood := { row := storeDoesRow, standIns := [], harness := (true, "68cadc085080a9d329630215722b1c66b3830e236a81c3222405a2a356f2d6be"), looks := true }, kinds := [], alts := [], laidByText := true, laidKinds := [.data, .data, .data, .data, .pinned], laidTests := true, laidLooks := .later }
def StoreDoesCardSaid : Prop := Claim7.holds Tryz.pinned (.plain (OpenSpec.ofChange storeDoesSpec)) storeDoesCard

/-- THE SECOND FORM's CARD OF 'scullerylaw07.ChunkTells'. -/
def chunkTellsUptoCard : Claim7 := { stood := { row := chunkTellsUptoRow, standIns := [], harness := (true, "68cadc085080a9d329630215722b1c66b3830e236a81c3222405a2a356f2d6be"), looks := true }, kinds := [], alts := [], laidByText := true, laidKinds := [.data, .data, .data, .data, .sentinel, .sentinel, .pinned], laidTests := true, laidLooks := .later }
def ChunkTellsUptoCardSaid : Prop := Claim7.holds Tryz.pinned (.plain (OpenSpec.upto chunkTellsSpec)) chunkTellsUptoCard

/-- THE SECOND FORM's CARD OF 'scullerylaw16.StoreDoes'. -/
def storeDoesUptoCard : Claim7 := { stood := { row := storeDoesUptoRow, standIns := [], harness := (true, "68cadc085080a9d329630215722b1c66b3830e236a81c3222405a2a356f2d6be"), looks := true }, kinds := [], alts := [], laidByText := true, laidKinds := [.data, .data, .data, .data, .pinned], laidTests := true, laidLooks := .later }
def StoreDoesUptoCardSaid : Prop := Claim7.holds Tryz.pinned (.plain (OpenSpec.upto storeDoesSpec)) storeDoesUptoCard
end Rows
end Go.Proofs.YtmmbedlegmbppaaGreatDoor
