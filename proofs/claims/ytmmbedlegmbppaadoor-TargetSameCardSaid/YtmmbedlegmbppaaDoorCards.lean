/-
  DERIVED. GIVEN WITH THE SEED: THE CARDS: each row of YtmmbedlegmbppaaDoorRows.lean that lists a variable, with what it lists TIED to the program's text (the seventh form; the later family's looks); each row that meets fmt, with fmt's text TOLD by the authors' own Lean function (tested against real Go, not proved from fmt's source: count such statements apart). THE CARD IS WHAT COUNTS. Prove the row's statement (the work); the ties are given (YtmmbedlegmbppaaDoorTie.lean); close each card by the builder's one call (the guide's Derived/Test/ToyasCard.lean, 'card_holds'). Laid BY PROGRAM, IN A SANDBOX (cutbox-door.mjs). By AI agents, Wed Nov 11 2026. No macro, syntax, notation, axiom, sorry.
-/
import Derived.Test.YtmmbedlegmbppaaDoorRows
import GoSem.ClaimSeven
namespace Go.Proofs.YtmmbedlegmbppaaDoor
namespace Rows

/-- THE TIED CARD OF 'scullerylaw15.VaryTells'. -/
def varyTellsCard : Claim7 := { stood := { row := varyTellsRow, standIns := [], harness := (true, "4767d8adbe7616609c50e41e7cf2c5936bc5594954c90dd4395f55c3e17eed30"), looks := true }, kinds := [], alts := [], laidByText := true, laidKinds := [.data, .data, .data, .data, .pinned], laidTests := true, laidLooks := .later }
def VaryTellsCardSaid : Prop := Claim7.holds Tryd.pinned (.plain (OpenSpec.ofChange varyTellsSpec)) varyTellsCard

/-- THE TIED CARD OF 'scullerylaw15.VarySame'. -/
def varySameCard : Claim7 := { stood := { row := varySameRow, standIns := [], harness := (true, "4767d8adbe7616609c50e41e7cf2c5936bc5594954c90dd4395f55c3e17eed30"), looks := true }, kinds := [], alts := [], laidByText := true, laidKinds := [.data, .data, .data, .data, .pinned], laidTests := true, laidLooks := .later }
def VarySameCardSaid : Prop := Claim7.holds Tryd.pinned (.plain (OpenSpec.ofChange varySameSpec)) varySameCard

/-- THE TIED CARD OF 'scullerylaw15.VaryBlanks'. -/
def varyBlanksCard : Claim7 := { stood := { row := varyBlanksRow, standIns := [], harness := (true, "4767d8adbe7616609c50e41e7cf2c5936bc5594954c90dd4395f55c3e17eed30"), looks := true }, kinds := [], alts := [], laidByText := true, laidKinds := [.data, .data, .data, .data, .pinned], laidTests := true, laidLooks := .later }
def VaryBlanksCardSaid : Prop := Claim7.holds Tryd.pinned (.plain (OpenSpec.ofChange varyBlanksSpec)) varyBlanksCard

/-- THE TIED CARD OF 'scullerylaw09.TargetTells'. -/
def targetTellsCard : Claim7 := { stood := { row := targetTellsRow, standIns := [], harness := (true, "4767d8adbe7616609c50e41e7cf2c5936bc5594954c90dd4395f55c3e17eed30"), looks := true }, kinds := [], alts := [], laidByText := true, laidKinds := [.data, .data, .data, .data, .sentinel, .sentinel, .pinned], laidTests := true, laidLooks := .later }
def TargetTellsCardSaid : Prop := Claim7.holds Tryd.pinned (.plain (OpenSpec.ofChange targetTellsSpec)) targetTellsCard

/-- THE TIED CARD OF 'scullerylaw09.TargetStays'. -/
def targetStaysCard : Claim7 := { stood := { row := targetStaysRow, standIns := [], harness := (true, "4767d8adbe7616609c50e41e7cf2c5936bc5594954c90dd4395f55c3e17eed30"), looks := true }, kinds := [], alts := [], laidByText := true, laidKinds := [.data, .data, .data, .data, .sentinel, .sentinel, .pinned], laidTests := true, laidLooks := .later }
def TargetStaysCardSaid : Prop := Claim7.holds Tryd.pinned (.plain (OpenSpec.ofChange targetStaysSpec)) targetStaysCard

/-- THE TIED CARD OF 'scullerylaw09.TargetDots'. -/
def targetDotsCard : Claim7 := { stood := { row := targetDotsRow, standIns := [], harness := (true, "4767d8adbe7616609c50e41e7cf2c5936bc5594954c90dd4395f55c3e17eed30"), looks := true }, kinds := [], alts := [], laidByText := true, laidKinds := [.data, .data, .data, .data, .sentinel, .sentinel, .pinned], laidTests := true, laidLooks := .later }
def TargetDotsCardSaid : Prop := Claim7.holds Tryd.pinned (.plain (OpenSpec.ofChange targetDotsSpec)) targetDotsCard

/-- THE TIED CARD OF 'scullerylaw09.TargetSame'. -/
def targetSameCard : Claim7 := { stood := { row := targetSameRow, standIns := [], harness := (true, "4767d8adbe7616609c50e41e7cf2c5936bc5594954c90dd4395f55c3e17eed30"), looks := true }, kinds := [], alts := [], laidByText := true, laidKinds := [.data, .data, .data, .data, .sentinel, .sentinel, .pinned], laidTests := true, laidLooks := .later }
def TargetSameCardSaid : Prop := Claim7.holds Tryd.pinned (.plain (OpenSpec.ofChange targetSameSpec)) targetSameCard

/-- THE TIED CARD OF 'scullerylaw07.ChunkBack'. -/
def chunkBackCard : Claim7 := { stood := { row := chunkBackRow, standIns := [], harness := (true, "4767d8adbe7616609c50e41e7cf2c5936bc5594954c90dd4395f55c3e17eed30"), looks := true }, kinds := [], alts := [], laidByText := true, laidKinds := [.data, .data, .data, .data, .sentinel, .sentinel, .pinned], laidTests := true, laidLooks := .later }
def ChunkBackCardSaid : Prop := Claim7.holds Tryd.pinned (.plain (OpenSpec.ofChange chunkBackSpec)) chunkBackCard

/-- THE TIED CARD OF 'scullerylaw07.ChunkJoin'. -/
def chunkJoinCard : Claim7 := { stood := { row := chunkJoinRow, standIns := [], harness := (true, "4767d8adbe7616609c50e41e7cf2c5936bc5594954c90dd4395f55c3e17eed30"), looks := true }, kinds := [], alts := [], laidByText := true, laidKinds := [.data, .data, .data, .data, .sentinel, .sentinel, .pinned], laidTests := true, laidLooks := .later }
def ChunkJoinCardSaid : Prop := Claim7.holds Tryd.pinned (.plain (OpenSpec.ofChange chunkJoinSpec)) chunkJoinCard

/-- THE TIED CARD OF 'scullerylaw16.StoreOwn'. -/
def storeOwnCard : Claim7 := { stood := { row := storeOwnRow, standIns := [], harness := (true, "4767d8adbe7616609c50e41e7cf2c5936bc5594954c90dd4395f55c3e17eed30"), looks := true }, kinds := [], alts := [], laidByText := true, laidKinds := [.data, .data, .data, .data, .pinned], laidTests := true, laidLooks := .later }
def StoreOwnCardSaid : Prop := Claim7.holds Tryd.pinned (.plain (OpenSpec.ofChange storeOwnSpec)) storeOwnCard

/-- THE SECOND FORM's CARD OF 'scullerylaw15.VaryTells'. -/
def varyTellsUptoCard : Claim7 := { stood := { row := varyTellsUptoRow, standIns := [], harness := (true, "4767d8adbe7616609c50e41e7cf2c5936bc5594954c90dd4395f55c3e17eed30"), looks := true }, kinds := [], alts := [], laidByText := true, laidKinds := [.data, .data, .data, .data, .pinned], laidTests := true, laidLooks := .later }
def VaryTellsUptoCardSaid : Prop := Claim7.holds Tryd.pinned (.plain (OpenSpec.upto varyTellsSpec)) varyTellsUptoCard

/-- THE SECOND FORM's CARD OF 'scullerylaw15.VarySame'. -/
def varySameUptoCard : Claim7 := { stood := { row := varySameUptoRow, standIns := [], harness := (true, "4767d8adbe7616609c50e41e7cf2c5936bc5594954c90dd4395f55c3e17eed30"), looks := true }, kinds := [], alts := [], laidByText := true, laidKinds := [.data, .data, .data, .data, .pinned], laidTests := true, laidLooks := .later }
def VarySameUptoCardSaid : Prop := Claim7.holds Tryd.pinned (.plain (OpenSpec.upto varySameSpec)) varySameUptoCard

/-- THE SECOND FORM's CARD OF 'scullerylaw15.VaryBlanks'. -/
def varyBlanksUptoCard : Claim7 := { stood := { row := varyBlanksUptoRow, standIns := [], harness := (true, "4767d8adbe7616609c50e41e7cf2c5936bc5594954c90dd4395f55c3e17eed30"), looks := true }, kinds := [], alts := [], laidByText := true, laidKinds := [.data, .data, .data, .data, .pinned], laidTests := true, laidLooks := .later }
def VaryBlanksUptoCardSaid : Prop := Claim7.holds Tryd.pinned (.plain (OpenSpec.upto varyBlanksSpec)) varyBlanksUptoCard

/-- THE SECOND FORM's CARD OF 'scullerylaw09.TargetTells'. -/
def targetTellsUptoCard : Claim7 := { stood := { row := targetTellsUptoRow, standIns := [], harness := (true, "4767d8adbe7616609c50e41e7cf2c5936bc5594954c90dd4395f55c3e17eed30"), looks := true }, kinds := [], alts := [], laidByText := true, laidKinds := [.data, .data, .data, .data, .sentinel, .sentinel, .pinned], laidTests := true, laidLooks := .later }
def TargetTellsUptoCardSaid : Prop := Claim7.holds Tryd.pinned (.plain (OpenSpec.upto targetTellsSpec)) targetTellsUptoCard

/-- THE SECOND FORM's CARD OF 'scullerylaw09.TargetStays'. -/
def targetStaysUptoCard : Claim7 := { stood := { row := targetStaysUptoRow, standIns := [], harness := (true, "4767d8adbe7616609c50e41e7cf2c5936bc5594954c90dd4395f55c3e17eed30"), looks := true }, kinds := [], alts := [], laidByText := true, laidKinds := [.data, .data, .data, .data, .sentinel, .sentinel, .pinned], laidTests := true, laidLooks := .later }
def TargetStaysUptoCardSaid : Prop := Claim7.holds Tryd.pinned (.plain (OpenSpec.upto targetStaysSpec)) targetStaysUptoCard

/-- THE SECOND FORM's CARD OF 'scullerylaw09.TargetDots'. -/
def targetDotsUptoCard : Claim7 := { stood := { row := targetDotsUptoRow, standIns := [], harness := (true, "4767d8adbe7616609c50e41e7cf2c5936bc5594954c90dd4395f55c3e17eed30"), looks := true }, kinds := [], alts := [], laidByText := true, laidKinds := [.data, .data, .data, .data, .sentinel, .sentinel, .pinned], laidTests := true, laidLooks := .later }
def TargetDotsUptoCardSaid : Prop := Claim7.holds Tryd.pinned (.plain (OpenSpec.upto targetDotsSpec)) targetDotsUptoCard

/-- THE SECOND FORM's CARD OF 'scullerylaw09.TargetSame'. -/
def targetSameUptoCard : Claim7 := { stood := { row := targetSameUptoRow, standIns := [], harness := (true, "4767d8adbe7616609c50e41e7cf2c5936bc5594954c90dd4395f55c3e17eed30"), looks := true }, kinds := [], alts := [], laidByText := true, laidKinds := [.data, .data, .data, .data, .sentinel, .sentinel, .pinned], laidTests := true, laidLooks := .later }
def TargetSameUptoCardSaid : Prop := Claim7.holds Tryd.pinned (.plain (OpenSpec.upto targetSameSpec)) targetSameUptoCard

/-- THE SECOND FORM's CARD OF 'scullerylaw07.ChunkBack'. -/
def chunkBackUptoCard : Claim7 := { stood := { row := chunkBackUptoRow, standIns := [], harness := (true, "4767d8adbe7616609c50e41e7cf2c5936bc5594954c90dd4395f55c3e17eed30"), looks := true }, kinds := [], alts := [], laidByText := true, laidKinds := [.data, .data, .data, .data, .sentinel, .sentinel, .pinned], laidTests := true, laidLooks := .later }
def ChunkBackUptoCardSaid : Prop := Claim7.holds Tryd.pinned (.plain (OpenSpec.upto chunkBackSpec)) chunkBackUptoCard

/-- THE SECOND FORM's CARD OF 'scullerylaw07.ChunkJoin'. -/
def chunkJoinUptoCard : Claim7 := { stood := { row := chunkJoinUptoRow, standIns := [], harness := (true, "4767d8adbe7616609c50e41e7cf2c5936bc5594954c90dd4395f55c3e17eed30"), looks := true }, kinds := [], alts := [], laidByText := true, laidKinds := [.data, .data, .data, .data, .sentinel, .sentinel, .pinned], laidTests := true, laidLooks := .later }
def ChunkJoinUptoCardSaid : Prop := Claim7.holds Tryd.pinned (.plain (OpenSpec.upto chunkJoinSpec)) chunkJoinUptoCard

/-- THE SECOND FORM's CARD OF 'scullerylaw16.StoreOwn'. -/
def storeOwnUptoCard : Claim7 := { stood := { row := storeOwnUptoRow, standIns := [], harness := (true, "4767d8adbe7616609c50e41e7cf2c5936bc5594954c90dd4395f55c3e17eed30"), looks := true }, kinds := [], alts := [], laidByText := true, laidKinds := [.data, .data, .data, .data, .pinned], laidTests := true, laidLooks := .later }
def StoreOwnUptoCardSaid : Prop := Claim7.holds Tryd.pinned (.plain (OpenSpec.upto storeOwnSpec)) storeOwnUptoCard
end Rows
end Go.Proofs.YtmmbedlegmbppaaDoor
