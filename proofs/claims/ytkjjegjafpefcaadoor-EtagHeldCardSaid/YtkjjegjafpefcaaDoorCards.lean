/-
  DERIVED. GIVEN WITH THE SEED: THE CARDS: each row of YtkjjegjafpefcaaDoorRows.lean that lists a variable, with what it lists TIED to the program's text (the seventh form; the later family's looks); each row that meets fmt, with fmt's text TOLD by the authors' own Lean function (tested against real Go, not proved from fmt's source: count such statements apart). THE CARD IS WHAT COUNTS. Prove the row's statement (the work); the ties are given (YtkjjegjafpefcaaDoorTie.lean); close each card by the builder's one call (the guide's Derived/Test/ToyasCard.lean, 'card_holds'). Laid BY PROGRAM, IN A SANDBOX (cutbox-door.mjs). By AI agents, Wed Nov 11 2026. No macro, syntax, notation, axiom, sorry.
-/
import Derived.Test.YtkjjegjafpefcaaDoorRows
import GoSem.ClaimSeven
namespace Go.Proofs.YtkjjegjafpefcaaDoor
namespace Rows

/-- THE TIED CARD OF 'scullerylaw06.HeadTells'. -/
def headTellsCard : Claim7 := { stood := { row := headTellsRow, standIns := [], harness := (true, "51d07888ebbe5b5caf95c829860097b4b5b080f6389a1b35b8f911bcaabd3ceb"), looks := false }, kinds := [], alts := [], laidByText := true, laidKinds := [.data, .pinned], laidTests := true, laidLooks := .later }
def HeadTellsCardSaid : Prop := Claim7.holds Tryd.pinned (.plain (OpenSpec.ofChange headTellsSpec)) headTellsCard

/-- THE TIED CARD OF 'scullerylaw06.HeadLess'. -/
def headLessCard : Claim7 := { stood := { row := headLessRow, standIns := [], harness := (true, "51d07888ebbe5b5caf95c829860097b4b5b080f6389a1b35b8f911bcaabd3ceb"), looks := false }, kinds := [], alts := [], laidByText := true, laidKinds := [.data, .pinned], laidTests := true, laidLooks := .later }
def HeadLessCardSaid : Prop := Claim7.holds Tryd.pinned (.plain (OpenSpec.ofChange headLessSpec)) headLessCard

/-- THE TIED CARD OF 'scullerylaw06.HeadBack'. -/
def headBackCard : Claim7 := { stood := { row := headBackRow, standIns := [], harness := (true, "51d07888ebbe5b5caf95c829860097b4b5b080f6389a1b35b8f911bcaabd3ceb"), looks := false }, kinds := [], alts := [], laidByText := true, laidKinds := [.data, .pinned], laidTests := true, laidLooks := .later }
def HeadBackCardSaid : Prop := Claim7.holds Tryd.pinned (.plain (OpenSpec.ofChange headBackSpec)) headBackCard

/-- THE TIED CARD OF 'scullerylaw10.LegacyTells'. -/
def legacyTellsCard : Claim7 := { stood := { row := legacyTellsRow, standIns := [], harness := (true, "51d07888ebbe5b5caf95c829860097b4b5b080f6389a1b35b8f911bcaabd3ceb"), looks := false }, kinds := [], alts := [], laidByText := true, laidKinds := [.data, .pinned], laidTests := true, laidLooks := .later }
def LegacyTellsCardSaid : Prop := Claim7.holds Tryd.pinned (.plain (OpenSpec.ofChange legacyTellsSpec)) legacyTellsCard

/-- THE TIED CARD OF 'scullerylaw10.LegacyFirst'. -/
def legacyFirstCard : Claim7 := { stood := { row := legacyFirstRow, standIns := [], harness := (true, "51d07888ebbe5b5caf95c829860097b4b5b080f6389a1b35b8f911bcaabd3ceb"), looks := false }, kinds := [], alts := [], laidByText := true, laidKinds := [.data, .pinned], laidTests := true, laidLooks := .later }
def LegacyFirstCardSaid : Prop := Claim7.holds Tryd.pinned (.plain (OpenSpec.ofChange legacyFirstSpec)) legacyFirstCard

/-- THE TIED CARD OF 'scullerylaw10.LegacyTurned'. -/
def legacyTurnedCard : Claim7 := { stood := { row := legacyTurnedRow, standIns := [], harness := (true, "51d07888ebbe5b5caf95c829860097b4b5b080f6389a1b35b8f911bcaabd3ceb"), looks := false }, kinds := [], alts := [], laidByText := true, laidKinds := [.data, .pinned], laidTests := true, laidLooks := .later }
def LegacyTurnedCardSaid : Prop := Claim7.holds Tryd.pinned (.plain (OpenSpec.ofChange legacyTurnedSpec)) legacyTurnedCard

/-- THE TIED CARD OF 'scullerylaw18.HopsTell'. -/
def hopsTellCard : Claim7 := { stood := { row := hopsTellRow, standIns := [], harness := (true, "51d07888ebbe5b5caf95c829860097b4b5b080f6389a1b35b8f911bcaabd3ceb"), looks := false }, kinds := [], alts := [], laidByText := true, laidKinds := [.data, .pinned], laidTests := true, laidLooks := .later }
def HopsTellCardSaid : Prop := Claim7.holds Tryd.pinned (.plain (OpenSpec.ofChange hopsTellSpec)) hopsTellCard

/-- THE TIED CARD OF 'scullerylaw18.HopsMeet'. -/
def hopsMeetCard : Claim7 := { stood := { row := hopsMeetRow, standIns := [], harness := (true, "51d07888ebbe5b5caf95c829860097b4b5b080f6389a1b35b8f911bcaabd3ceb"), looks := false }, kinds := [], alts := [], laidByText := true, laidKinds := [.data, .pinned], laidTests := true, laidLooks := .later }
def HopsMeetCardSaid : Prop := Claim7.holds Tryd.pinned (.plain (OpenSpec.ofChange hopsMeetSpec)) hopsMeetCard

/-- THE TIED CARD OF 'scullerylaw18.HopsEnd'. -/
def hopsEndCard : Claim7 := { stood := { row := hopsEndRow, standIns := [], harness := (true, "51d07888ebbe5b5caf95c829860097b4b5b080f6389a1b35b8f911bcaabd3ceb"), looks := false }, kinds := [], alts := [], laidByText := true, laidKinds := [.data, .pinned], laidTests := true, laidLooks := .later }
def HopsEndCardSaid : Prop := Claim7.holds Tryd.pinned (.plain (OpenSpec.ofChange hopsEndSpec)) hopsEndCard

/-- THE TIED CARD OF 'scullerylaw12.EtagTells'. -/
def etagTellsCard : Claim7 := { stood := { row := etagTellsRow, standIns := [], harness := (true, "51d07888ebbe5b5caf95c829860097b4b5b080f6389a1b35b8f911bcaabd3ceb"), looks := false }, kinds := [], alts := [], laidByText := true, laidKinds := [.data, .pinned], laidTests := true, laidLooks := .later }
def EtagTellsCardSaid : Prop := Claim7.holds Tryd.pinned (.plain (OpenSpec.ofChange etagTellsSpec)) etagTellsCard

/-- THE TIED CARD OF 'scullerylaw12.EtagBack'. -/
def etagBackCard : Claim7 := { stood := { row := etagBackRow, standIns := [], harness := (true, "51d07888ebbe5b5caf95c829860097b4b5b080f6389a1b35b8f911bcaabd3ceb"), looks := false }, kinds := [], alts := [], laidByText := true, laidKinds := [.data, .pinned], laidTests := true, laidLooks := .later }
def EtagBackCardSaid : Prop := Claim7.holds Tryd.pinned (.plain (OpenSpec.ofChange etagBackSpec)) etagBackCard

/-- THE TIED CARD OF 'scullerylaw12.EtagHeld'. -/
def etagHeldCard : Claim7 := { stood := { row := etagHeldRow, standIns := [], harness := (true, "51d07888ebbe5b5caf95c829860097b4b5b080f6389a1b35b8f911bcaabd3ceb"), looks := false }, kinds := [], alts := [], laidByText := true, laidKinds := [.data, .pinned], laidTests := true, laidLooks := .later }
def EtagHeldCardSaid : Prop := Claim7.holds Tryd.pinned (.plain (OpenSpec.ofChange etagHeldSpec)) etagHeldCard

/-- THE SECOND FORM's CARD OF 'scullerylaw06.HeadTells'. -/
def headTellsUptoCard : Claim7 := { stood := { row := headTellsUptoRow, standIns := [], harness := (true, "51d07888ebbe5b5caf95c829860097b4b5b080f6389a1b35b8f911bcaabd3ceb"), looks := false }, kinds := [], alts := [], laidByText := true, laidKinds := [.data, .pinned], laidTests := true, laidLooks := .later }
def HeadTellsUptoCardSaid : Prop := Claim7.holds Tryd.pinned (.plain (OpenSpec.upto headTellsSpec)) headTellsUptoCard

/-- THE SECOND FORM's CARD OF 'scullerylaw06.HeadLess'. -/
def headLessUptoCard : Claim7 := { stood := { row := headLessUptoRow, standIns := [], harness := (true, "51d07888ebbe5b5caf95c829860097b4b5b080f6389a1b35b8f911bcaabd3ceb"), looks := false }, kinds := [], alts := [], laidByText := true, laidKinds := [.data, .pinned], laidTests := true, laidLooks := .later }
def HeadLessUptoCardSaid : Prop := Claim7.holds Tryd.pinned (.plain (OpenSpec.upto headLessSpec)) headLessUptoCard

/-- THE SECOND FORM's CARD OF 'scullerylaw06.HeadBack'. -/
def headBackUptoCard : Claim7 := { stood := { row := headBackUptoRow, standIns := [], harness := (true, "51d07888ebbe5b5caf95c829860097b4b5b080f6389a1b35b8f911bcaabd3ceb"), looks := false }, kinds := [], alts := [], laidByText := true, laidKinds := [.data, .pinned], laidTests := true, laidLooks := .later }
def HeadBackUptoCardSaid : Prop := Claim7.holds Tryd.pinned (.plain (OpenSpec.upto headBackSpec)) headBackUptoCard

/-- THE SECOND FORM's CARD OF 'scullerylaw10.LegacyTells'. -/
def legacyTellsUptoCard : Claim7 := { stood := { row := legacyTellsUptoRow, standIns := [], harness := (true, "51d07888ebbe5b5caf95c829860097b4b5b080f6389a1b35b8f911bcaabd3ceb"), looks := false }, kinds := [], alts := [], laidByText := true, laidKinds := [.data, .pinned], laidTests := true, laidLooks := .later }
def LegacyTellsUptoCardSaid : Prop := Claim7.holds Tryd.pinned (.plain (OpenSpec.upto legacyTellsSpec)) legacyTellsUptoCard

/-- THE SECOND FORM's CARD OF 'scullerylaw10.LegacyFirst'. -/
def legacyFirstUptoCard : Claim7 := { stood := { row := legacyFirstUptoRow, standIns := [], harness := (true, "51d07888ebbe5b5caf95c829860097b4b5b080f6389a1b35b8f911bcaabd3ceb"), looks := false }, kinds := [], alts := [], laidByText := true, laidKinds := [.data, .pinned], laidTests := true, laidLooks := .later }
def LegacyFirstUptoCardSaid : Prop := Claim7.holds Tryd.pinned (.plain (OpenSpec.upto legacyFirstSpec)) legacyFirstUptoCard

/-- THE SECOND FORM's CARD OF 'scullerylaw10.LegacyTurned'. -/
def legacyTurnedUptoCard : Claim7 := { stood := { row := legacyTurnedUptoRow, standIns := [], harness := (true, "51d07888ebbe5b5caf95c829860097b4b5b080f6389a1b35b8f911bcaabd3ceb"), looks := false }, kinds := [], alts := [], laidByText := true, laidKinds := [.data, .pinned], laidTests := true, laidLooks := .later }
def LegacyTurnedUptoCardSaid : Prop := Claim7.holds Tryd.pinned (.plain (OpenSpec.upto legacyTurnedSpec)) legacyTurnedUptoCard

/-- THE SECOND FORM's CARD OF 'scullerylaw18.HopsTell'. -/
def hopsTellUptoCard : Claim7 := { stood := { row := hopsTellUptoRow, standIns := [], harness := (true, "51d07888ebbe5b5caf95c829860097b4b5b080f6389a1b35b8f911bcaabd3ceb"), looks := false }, kinds := [], alts := [], laidByText := true, laidKinds := [.data, .pinned], laidTests := true, laidLooks := .later }
def HopsTellUptoCardSaid : Prop := Claim7.holds Tryd.pinned (.plain (OpenSpec.upto hopsTellSpec)) hopsTellUptoCard

/-- THE SECOND FORM's CARD OF 'scullerylaw18.HopsMeet'. -/
def hopsMeetUptoCard : Claim7 := { stood := { row := hopsMeetUptoRow, standIns := [], harness := (true, "51d07888ebbe5b5caf95c829860097b4b5b080f6389a1b35b8f911bcaabd3ceb"), looks := false }, kinds := [], alts := [], laidByText := true, laidKinds := [.data, .pinned], laidTests := true, laidLooks := .later }
def HopsMeetUptoCardSaid : Prop := Claim7.holds Tryd.pinned (.plain (OpenSpec.upto hopsMeetSpec)) hopsMeetUptoCard

/-- THE SECOND FORM's CARD OF 'scullerylaw18.HopsEnd'. -/
def hopsEndUptoCard : Claim7 := { stood := { row := hopsEndUptoRow, standIns := [], harness := (true, "51d07888ebbe5b5caf95c829860097b4b5b080f6389a1b35b8f911bcaabd3ceb"), looks := false }, kinds := [], alts := [], laidByText := true, laidKinds := [.data, .pinned], laidTests := true, laidLooks := .later }
def HopsEndUptoCardSaid : Prop := Claim7.holds Tryd.pinned (.plain (OpenSpec.upto hopsEndSpec)) hopsEndUptoCard

/-- THE SECOND FORM's CARD OF 'scullerylaw12.EtagTells'. -/
def etagTellsUptoCard : Claim7 := { stood := { row := etagTellsUptoRow, standIns := [], harness := (true, "51d07888ebbe5b5caf95c829860097b4b5b080f6389a1b35b8f911bcaabd3ceb"), looks := false }, kinds := [], alts := [], laidByText := true, laidKinds := [.data, .pinned], laidTests := true, laidLooks := .later }
def EtagTellsUptoCardSaid : Prop := Claim7.holds Tryd.pinned (.plain (OpenSpec.upto etagTellsSpec)) etagTellsUptoCard

/-- THE SECOND FORM's CARD OF 'scullerylaw12.EtagBack'. -/
def etagBackUptoCard : Claim7 := { stood := { row := etagBackUptoRow, standIns := [], harness := (true, "51d07888ebbe5b5caf95c829860097b4b5b080f6389a1b35b8f911bcaabd3ceb"), looks := false }, kinds := [], alts := [], laidByText := true, laidKinds := [.data, .pinned], laidTests := true, laidLooks := .later }
def EtagBackUptoCardSaid : Prop := Claim7.holds Tryd.pinned (.plain (OpenSpec.upto etagBackSpec)) etagBackUptoCard

/-- THE SECOND FORM's CARD OF 'scullerylaw12.EtagHeld'. -/
def etagHeldUptoCard : Claim7 := { stood := { row := etagHeldUptoRow, standIns := [], harness := (true, "51d07888ebbe5b5caf95c829860097b4b5b080f6389a1b35b8f911bcaabd3ceb"), looks := false }, kinds := [], alts := [], laidByText := true, laidKinds := [.data, .pinned], laidTests := true, laidLooks := .later }
def EtagHeldUptoCardSaid : Prop := Claim7.holds Tryd.pinned (.plain (OpenSpec.upto etagHeldSpec)) etagHeldUptoCard
end Rows
end Go.Proofs.YtkjjegjafpefcaaDoor
