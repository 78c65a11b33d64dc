/-
  DERIVED. GIVEN WITH THE SEED: THE CARDS: each row of YtpddbfodjeoofaaDoorRows.lean that lists a variable, with what it lists TIED to the program's text (the seventh form; the later family's looks); each row that meets fmt, with fmt's text TOLD by the authors' own Lean function (tested against real Go, not proved from fmt's source: count such statements apart). THE CARD IS WHAT COUNTS. Prove the row's statement (the work); the ties are given (YtpddbfodjeoofaaDoorTie.lean); close each card by the builder's one call (the guide's Derived/Test/ToyasCard.lean, 'card_holds'). Laid BY PROGRAM, IN A SANDBOX (cutbox-door.mjs). By AI agents, Wed Nov 11 2026. No macro, syntax, notation, axiom, sorry.
-/
import Derived.Test.YtpddbfodjeoofaaDoorRows
import GoSem.ClaimSeven
namespace Go.Proofs.YtpddbfodjeoofaaDoor
namespace Rows

/-- THE TIED CARD OF 'scullerylaw01.AsciiTells'. -/
def asciiTellsCard : Claim7 := { stood := { row := asciiTellsRow, standIns := [], harness := (true, "cca3769125f71ad75beecf5e3e281650f3e07753cb0eed95ec96056d46fe2088"), looks := false }, kinds := [], alts := [], laidByText := true, laidKinds := [.data, .pinned], laidTests := true, laidLooks := .later }
def AsciiTellsCardSaid : Prop := Claim7.holds Tryd.pinned (.plain (OpenSpec.ofChange asciiTellsSpec)) asciiTellsCard

/-- THE TIED CARD OF 'scullerylaw01.AsciiStays'. -/
def asciiStaysCard : Claim7 := { stood := { row := asciiStaysRow, standIns := [], harness := (true, "cca3769125f71ad75beecf5e3e281650f3e07753cb0eed95ec96056d46fe2088"), looks := false }, kinds := [], alts := [], laidByText := true, laidKinds := [.data, .pinned], laidTests := true, laidLooks := .later }
def AsciiStaysCardSaid : Prop := Claim7.holds Tryd.pinned (.plain (OpenSpec.ofChange asciiStaysSpec)) asciiStaysCard

/-- THE TIED CARD OF 'scullerylaw01.AsciiJoins'. -/
def asciiJoinsCard : Claim7 := { stood := { row := asciiJoinsRow, standIns := [], harness := (true, "cca3769125f71ad75beecf5e3e281650f3e07753cb0eed95ec96056d46fe2088"), looks := false }, kinds := [], alts := [], laidByText := true, laidKinds := [.data, .pinned], laidTests := true, laidLooks := .later }
def AsciiJoinsCardSaid : Prop := Claim7.holds Tryd.pinned (.plain (OpenSpec.ofChange asciiJoinsSpec)) asciiJoinsCard

/-- THE TIED CARD OF 'scullerylaw01.AsciiNumbers'. -/
def asciiNumbersCard : Claim7 := { stood := { row := asciiNumbersRow, standIns := [], harness := (true, "cca3769125f71ad75beecf5e3e281650f3e07753cb0eed95ec96056d46fe2088"), looks := false }, kinds := [], alts := [], laidByText := true, laidKinds := [.data, .pinned], laidTests := true, laidLooks := .later }
def AsciiNumbersCardSaid : Prop := Claim7.holds Tryd.pinned (.plain (OpenSpec.ofChange asciiNumbersSpec)) asciiNumbersCard

/-- THE SECOND FORM's CARD OF 'scullerylaw01.AsciiTells'. -/
def asciiTellsUptoCard : Claim7 := { stood := { row := asciiTellsUptoRow, standIns := [], harness := (true, "cca3769125f71ad75beecf5e3e281650f3e07753cb0eed95ec96056d46fe2088"), looks := false }, kinds := [], alts := [], laidByText := true, laidKinds := [.data, .pinned], laidTests := true, laidLooks := .later }
def AsciiTellsUptoCardSaid : Prop := Claim7.holds Tryd.pinned (.plain (OpenSpec.upto asciiTellsSpec)) asciiTellsUptoCard

/-- THE SECOND FORM's CARD OF 'scullerylaw01.AsciiStays'. -/
def asciiStaysUptoCard : Claim7 := { stood := { row := asciiStaysUptoRow, standIns := [], harness := (true, "cca3769125f71ad75beecf5e3e281650f3e07753cb0eed95ec96056d46fe2088"), looks := false }, kinds := [], alts := [], laidByText := true, laidKinds := [.data, .pinned], laidTests := true, laidLooks := .later }
def AsciiStaysUptoCardSaid : Prop := Claim7.holds Tryd.pinned (.plain (OpenSpec.upto asciiStaysSpec)) asciiStaysUptoCard

/-- THE SECOND FORM's CARD OF 'scullerylaw01.AsciiJoins'. -/
def asciiJoinsUptoCard : Claim7 := { stood := { row := asciiJoinsUptoRow, standIns := [], harness := (true, "cca3769125f71ad75beecf5e3e281650f3e07753cb0eed95ec96056d46fe2088"), looks := false }, kinds := [], alts := [], laidByText := true, laidKinds := [.data, .pinned], laidTests := true, laidLooks := .later }
def AsciiJoinsUptoCardSaid : Prop := Claim7.holds Tryd.pinned (.plain (OpenSpec.upto asciiJoinsSpec)) asciiJoinsUptoCard

/-- THE SECOND FORM's CARD OF 'scullerylaw01.AsciiNumbers'. -/
def asciiNumbersUptoCard : Claim7 := { stood := { row := asciiNumbersUptoRow, standIns := [], harness := (true, "cca3769125f71ad75beecf5e3e281650f3e07753cb0eed95ec96056d46fe2088"), looks := false }, kinds := [], alts := [], laidByText := true, laidKinds := [.data, .pinned], laidTests := true, laidLooks := .later }
def AsciiNumbersUptoCardSaid : Prop := Claim7.holds Tryd.pinned (.plain (OpenSpec.upto asciiNumbersSpec)) asciiNumbersUptoCard
end Rows
end Go.Proofs.YtpddbfodjeoofaaDoor
