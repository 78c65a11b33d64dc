/-
  DERIVED. GIVEN WITH THE SEED: THE CARDS: each row of YtfnedbafindaeaaGreatDoorRows.lean that lists a variable, with what it lists TIED to the program's text (the seventh form; the later family's looks); each row that meets fmt, with fmt's text TOLD by the authors' own Lean function (tested against real Go, not proved from fmt's source: count such statements apart). THE CARD IS WHAT COUNTS. Prove the row's statement (the work); the ties are given (YtfnedbafindaeaaGreatDoorTie.lean); close each card by the builder's one call (the guide's Derived/Test/ToyasCard.lean, 'card_holds'). Laid BY PROGRAM, IN A SANDBOX (cutbox-door.mjs). By AI agents, Wed Nov 11 2026. No macro, syntax, notation, axiom, sorry.
-/
import Derived.Test.YtfnedbafindaeaaGreatDoorRows
import GoSem.ClaimSeven
namespace Go.Proofs.YtfnedbafindaeaaGreatDoor
namespace Rows

/-- THE TIED CARD OF 'scullerylaw14.PolicyJudges'. -/
def policyJudgesCard : Claim7 := { stood := { row := policyJudgesRow, standIns := [], harness := (true, "a7c79ceaaff62622a9ea9fbd318cc606529ee7ff575c60585b51a7fae97bda3c"), looks := true }, kinds := [], alts := [], laidByText := true, laidKinds := [.data, .data, .data, .data, .sentinel, .sentinel, .pinned], laidTests := true, laidLooks := .later }
def PolicyJudgesCardSaid : Prop := Claim7.holds Tryz.pinned (.plain (OpenSpec.ofChange policyJudgesSpec)) policyJudgesCard

/-- THE TIED CARD OF 'scullerylaw14.PolicyYounger'. -/
def policyYoungerCard : Claim7 := { stood := { row := policyYoungerRow, standIns := [], harness := (true, "a7c79ceaaff62622a9ea9fbd318cc606529ee7ff575c60585b51a7fae97bda3c"), looks := true }, kinds := [], alts := [], laidByText := true, laidKinds := [.data, .data, .data, .data, .sentinel, .sentinel, .pinned], laidTests := true, laidLooks := .later }
def PolicyYoungerCardSaid : Prop := Claim7.holds Tryz.pinned (.plain (OpenSpec.ofChange policyYoungerSpec)) policyYoungerCard

/-- THE SECOND FORM's CARD OF 'scullerylaw14.PolicyJudges'. -/
def policyJudgesUptoCard : Claim7 := { stood := { row := policyJudgesUptoRow, standIns := [], harness := (true, "a7c79ceaaff62622a9ea9fbd318cc606529ee7ff575c60585b51a7fae97bda3c"), looks := true }, kinds := [], alts := [], laidByText := true, laidKinds := [.data, .data, .data, .data, .sentinel, .sentinel, .pinned], laidTests := true, laidLooks := .later }
def PolicyJudgesUptoCardSaid : Prop := Claim7.holds Tryz.pinned (.plain (OpenSpec.upto policyJudgesSpec)) policyJudgesUptoCard

/-- THE SECOND FORM's CARD OF 'scullerylaw14.PolicyYounger'. -/
def policyYoungerUptoCard : Claim7 := { stood := { row := policyYoungerUptoRow, standIns := [], harness := (true, "a7c79ceaaff62622a9ea9fbd318cc606529ee7ff575c60585b51a7fae97bda3c"), looks := true }, kinds := [], alts := [], laidByText := true, laidKinds := [.data, .data, .data, .data, .sentinel, .sentinel, .pinned], laidTests := true, laidLooks := .later }
def PolicyYoungerUptoCardSaid : Prop := Claim7.holds Tryz.pinned (.plain (OpenSpec.upto policyYoungerSpec)) policyYoungerUptoCard
end Rows
end Go.Proofs.YtfnedbafindaeaaGreatDoor
