/-
  NARROWER THAN 'FOR EVERY INPUT', by the rows' own cells (each row's printed sentence says how): HeadTells: laid · HeadLess: laid · HeadBack: laid · LegacyTells: laid · LegacyFirst: laid · LegacyTurned: laid · HopsTell: laid · HopsMeet: laid · HopsEnd: laid · EtagTells: laid · EtagBack: laid · EtagHeld: laid.
  DERIVED. THE GIVEN ROWS OF THIS SEAT. 12 by the template 'for every input the law returns true; each argument reads behind the call as it read before'; 0 by the template 'total and deterministic' (their statements: YtkjjegjafpefcaaDoorTotals.lean).
  GIVEN WITH THE SEED: the statements are not yours to turn. If you find one false, say at which input.
  Laid BY PROGRAM, IN A SANDBOX (cutbox-rows.mjs): the forced cells as the released guide's own fill.sh prints them over the translation e1bbca1ff29130a8… (all of the seat's roots in one cut). By AI agents, Wed Nov 11 2026. No macro, syntax, notation, axiom, sorry.
-/
import Derived.Test.YtkjjegjafpefcaaDoorChecked
import GoSem.PinnedTables
import GoSem.Claim
import GoSem.ClaimJoined
import GoSem.ClaimMapViews
import Derived.JoinedTies
import Derived.KernelRfl
namespace Go.Proofs.YtkjjegjafpefcaaDoor
/- THE CELL 'sum', in the pinned program and in every row, IS THE sha256 OF THE DUMP (.gsa) THAT YtkjjegjafpefcaaDoorProg.lean LOADS. Nothing in Lean hashes anything: it is a label: what it is worth is what the hold of that sum in a sandbox is worth. -/
noncomputable def Tryd.pinned : Pinned := { name := "ytkjjegjafpefcaadoor", sum := "e1bbca1ff29130a87abeef9cd508ce190cc74001047a5ea9768b926c3dcc43a5", checked := Tryd.checked }
namespace Rows
def none {H : Type} : Left H := { results := [], args := [] }

/- WHAT THE LISTED PACKAGE-LEVEL VARIABLES READ AS WHEN THE CALL BEGINS. Each datum BY PROGRAM (the guide's laid-datum.mjs) off the statement by which the dump's own 'gosem.cut.vars' lays the variable. In a bare row this is a premise. The card (YtkjjegjafpefcaaDoorCards.lean) ties it to the program's text. -/
def laid_unicode_utf8_acceptRanges {H : Type} : DataW H := .agg [.agg [.lit (.int .u8 128), .lit (.int .u8 191)], .agg [.lit (.int .u8 160), .lit (.int .u8 191)], .agg [.lit (.int .u8 128), .lit (.int .u8 159)], .agg [.lit (.int .u8 144), .lit (.int .u8 191)], .agg [.lit (.int .u8 128), .lit (.int .u8 143)], .agg [.lit (.int .u8 0), .lit (.int .u8 0)], .agg [.lit (.int .u8 0), .lit (.int .u8 0)], .agg [.lit (.int .u8 0), .lit (.int .u8 0)], .agg [.lit (.int .u8 0), .lit (.int .u8 0)], .agg [.lit (.int .u8 0), .lit (.int .u8 0)], .agg [.lit (.int .u8 0), .lit (.int .u8 0)], .agg [.lit (.int .u8 0), .lit (.int .u8 0)], .agg [.lit (.int .u8 0), .lit (.int .u8 0)], .agg [.lit (.int .u8 0), .lit (.int .u8 0)], .agg [.lit (.int .u8 0), .lit (.int .u8 0)], .agg [.lit (.int .u8 0), .lit (.int .u8 0)]]
/-- One of Go's own tables, pinned by name: the form's constant. -/
def laid_unicode_utf8_first : DataW Unit := Go.Pinned.utf8First

/-- 'scullerylaw06.HeadTells': WHATEVER THE INPUT: true; the input reads as it did. -/
def headTellsSpec : ChangeSpec := { name := "headTells", fn := fun _ => fun
  | [d1, d2, d3] => { results := [.lit (.bool true)], args := [d1, d2, d3] }
  | _ => none }
def headTellsRow : OpenClaim := { program := "ytkjjegjafpefcaadoor", sum := "e1bbca1ff29130a87abeef9cd508ce190cc74001047a5ea9768b926c3dcc43a5", func := "scullery/scullerylaw06.HeadTells", spec := "headTells", inPlace := ["internal/bytealg.IndexByteString", "internal/bytealg.IndexString", "internal/abi.NoEscape", "internal/bytealg.MakeNoZero"], unfollowed := true, recurses := true, named := ["internal/bytealg.MaxLen", "unicode/utf8.first", "unicode/utf8.acceptRanges"], apart := false, laid := [("unicode/utf8.acceptRanges", laid_unicode_utf8_acceptRanges), ("unicode/utf8.first", laid_unicode_utf8_first)] }
def HeadTellsSaid : Prop := headTellsRow.holds Tryd.pinned (OpenSpec.ofChange headTellsSpec)

/-- ITS FALSE NEIGHBOUR: 'it returns false'. Refute it at one input. -/
def headTellsWrong : ChangeSpec := { name := "headTells", fn := fun _ => fun
  | [d1, d2, d3] => { results := [.lit (.bool false)], args := [d1, d2, d3] }
  | _ => none }
def HeadTellsWrongFalsely : Prop := headTellsRow.holds Tryd.pinned (OpenSpec.ofChange headTellsWrong)

/-- 'scullerylaw06.HeadLess': WHATEVER THE INPUT: true; the input reads as it did. -/
def headLessSpec : ChangeSpec := { name := "headLess", fn := fun _ => fun
  | [d1, d2] => { results := [.lit (.bool true)], args := [d1, d2] }
  | _ => none }
def headLessRow : OpenClaim := { program := "ytkjjegjafpefcaadoor", sum := "e1bbca1ff29130a87abeef9cd508ce190cc74001047a5ea9768b926c3dcc43a5", func := "scullery/scullerylaw06.HeadLess", spec := "headLess", inPlace := ["internal/bytealg.IndexByteString", "internal/bytealg.IndexString", "internal/abi.NoEscape", "internal/bytealg.MakeNoZero"], unfollowed := true, recurses := true, named := ["internal/bytealg.MaxLen", "unicode/utf8.first", "unicode/utf8.acceptRanges"], apart := false, laid := [("unicode/utf8.acceptRanges", laid_unicode_utf8_acceptRanges), ("unicode/utf8.first", laid_unicode_utf8_first)] }
def HeadLessSaid : Prop := headLessRow.holds Tryd.pinned (OpenSpec.ofChange headLessSpec)

/-- ITS FALSE NEIGHBOUR: 'it returns false'. Refute it at one input. -/
def headLessWrong : ChangeSpec := { name := "headLess", fn := fun _ => fun
  | [d1, d2] => { results := [.lit (.bool false)], args := [d1, d2] }
  | _ => none }
def HeadLessWrongFalsely : Prop := headLessRow.holds Tryd.pinned (OpenSpec.ofChange headLessWrong)

/-- 'scullerylaw06.HeadBack': WHATEVER THE INPUT: true; the input reads as it did. -/
def headBackSpec : ChangeSpec := { name := "headBack", fn := fun _ => fun
  | [d1, d2, d3] => { results := [.lit (.bool true)], args := [d1, d2, d3] }
  | _ => none }
def headBackRow : OpenClaim := { program := "ytkjjegjafpefcaadoor", sum := "e1bbca1ff29130a87abeef9cd508ce190cc74001047a5ea9768b926c3dcc43a5", func := "scullery/scullerylaw06.HeadBack", spec := "headBack", inPlace := ["internal/bytealg.IndexByteString", "internal/bytealg.IndexString", "internal/abi.NoEscape", "internal/bytealg.MakeNoZero"], unfollowed := true, recurses := true, named := ["internal/bytealg.MaxLen", "unicode/utf8.first", "unicode/utf8.acceptRanges"], apart := false, laid := [("unicode/utf8.acceptRanges", laid_unicode_utf8_acceptRanges), ("unicode/utf8.first", laid_unicode_utf8_first)] }
def HeadBackSaid : Prop := headBackRow.holds Tryd.pinned (OpenSpec.ofChange headBackSpec)

/-- ITS FALSE NEIGHBOUR: 'it returns false'. Refute it at one input. -/
def headBackWrong : ChangeSpec := { name := "headBack", fn := fun _ => fun
  | [d1, d2, d3] => { results := [.lit (.bool false)], args := [d1, d2, d3] }
  | _ => none }
def HeadBackWrongFalsely : Prop := headBackRow.holds Tryd.pinned (OpenSpec.ofChange headBackWrong)

/-- 'scullerylaw10.LegacyTells': WHATEVER THE INPUT: true; the input reads as it did. -/
def legacyTellsSpec : ChangeSpec := { name := "legacyTells", fn := fun _ => fun
  | [d1, d2, d3] => { results := [.lit (.bool true)], args := [d1, d2, d3] }
  | _ => none }
def legacyTellsRow : OpenClaim := { program := "ytkjjegjafpefcaadoor", sum := "e1bbca1ff29130a87abeef9cd508ce190cc74001047a5ea9768b926c3dcc43a5", func := "scullery/scullerylaw10.LegacyTells", spec := "legacyTells", inPlace := ["internal/bytealg.IndexByteString", "internal/bytealg.IndexString", "internal/abi.NoEscape", "internal/bytealg.MakeNoZero"], unfollowed := true, recurses := true, named := ["unicode/utf8.first", "unicode/utf8.acceptRanges", "internal/bytealg.MaxLen"], apart := false, laid := [("unicode/utf8.acceptRanges", laid_unicode_utf8_acceptRanges), ("unicode/utf8.first", laid_unicode_utf8_first)] }
def LegacyTellsSaid : Prop := legacyTellsRow.holds Tryd.pinned (OpenSpec.ofChange legacyTellsSpec)

/-- ITS FALSE NEIGHBOUR: 'it returns false'. Refute it at one input. -/
def legacyTellsWrong : ChangeSpec := { name := "legacyTells", fn := fun _ => fun
  | [d1, d2, d3] => { results := [.lit (.bool false)], args := [d1, d2, d3] }
  | _ => none }
def LegacyTellsWrongFalsely : Prop := legacyTellsRow.holds Tryd.pinned (OpenSpec.ofChange legacyTellsWrong)

/-- 'scullerylaw10.LegacyFirst': WHATEVER THE INPUT: true; the input reads as it did. -/
def legacyFirstSpec : ChangeSpec := { name := "legacyFirst", fn := fun _ => fun
  | [d1, d2] => { results := [.lit (.bool true)], args := [d1, d2] }
  | _ => none }
def legacyFirstRow : OpenClaim := { program := "ytkjjegjafpefcaadoor", sum := "e1bbca1ff29130a87abeef9cd508ce190cc74001047a5ea9768b926c3dcc43a5", func := "scullery/scullerylaw10.LegacyFirst", spec := "legacyFirst", inPlace := ["internal/bytealg.IndexByteString", "internal/bytealg.IndexString", "internal/abi.NoEscape", "internal/bytealg.MakeNoZero"], unfollowed := true, recurses := true, named := ["unicode/utf8.first", "unicode/utf8.acceptRanges", "internal/bytealg.MaxLen"], apart := false, laid := [("unicode/utf8.acceptRanges", laid_unicode_utf8_acceptRanges), ("unicode/utf8.first", laid_unicode_utf8_first)] }
def LegacyFirstSaid : Prop := legacyFirstRow.holds Tryd.pinned (OpenSpec.ofChange legacyFirstSpec)

/-- ITS FALSE NEIGHBOUR: 'it returns false'. Refute it at one input. -/
def legacyFirstWrong : ChangeSpec := { name := "legacyFirst", fn := fun _ => fun
  | [d1, d2] => { results := [.lit (.bool false)], args := [d1, d2] }
  | _ => none }
def LegacyFirstWrongFalsely : Prop := legacyFirstRow.holds Tryd.pinned (OpenSpec.ofChange legacyFirstWrong)

/-- 'scullerylaw10.LegacyTurned': WHATEVER THE INPUT: true; the input reads as it did. -/
def legacyTurnedSpec : ChangeSpec := { name := "legacyTurned", fn := fun _ => fun
  | [d] => { results := [.lit (.bool true)], args := [d] }
  | _ => none }
def legacyTurnedRow : OpenClaim := { program := "ytkjjegjafpefcaadoor", sum := "e1bbca1ff29130a87abeef9cd508ce190cc74001047a5ea9768b926c3dcc43a5", func := "scullery/scullerylaw10.LegacyTurned", spec := "legacyTurned", inPlace := ["internal/bytealg.IndexByteString", "internal/bytealg.IndexString", "internal/abi.NoEscape", "internal/bytealg.MakeNoZero"], unfollowed := true, recurses := true, named := ["unicode/utf8.first", "unicode/utf8.acceptRanges", "internal/bytealg.MaxLen"], apart := false, laid := [("unicode/utf8.acceptRanges", laid_unicode_utf8_acceptRanges), ("unicode/utf8.first", laid_unicode_utf8_first)] }
def LegacyTurnedSaid : Prop := legacyTurnedRow.holds Tryd.pinned (OpenSpec.ofChange legacyTurnedSpec)

/-- ITS FALSE NEIGHBOUR: 'it returns false'. Refute it at one input. -/
def legacyTurnedWrong : ChangeSpec := { name := "legacyTurned", fn := fun _ => fun
  | [d] => { results := [.lit (.bool false)], args := [d] }
  | _ => none }
def LegacyTurnedWrongFalsely : Prop := legacyTurnedRow.holds Tryd.pinned (OpenSpec.ofChange legacyTurnedWrong)

/-- 'scullerylaw18.HopsTell': WHATEVER THE INPUT: true; the input reads as it did. -/
def hopsTellSpec : ChangeSpec := { name := "hopsTell", fn := fun _ => fun
  | [d1, d2] => { results := [.lit (.bool true)], args := [d1, d2] }
  | _ => none }
def hopsTellRow : OpenClaim := { program := "ytkjjegjafpefcaadoor", sum := "e1bbca1ff29130a87abeef9cd508ce190cc74001047a5ea9768b926c3dcc43a5", func := "scullery/scullerylaw18.HopsTell", spec := "hopsTell", inPlace := ["internal/abi.NoEscape", "internal/bytealg.MakeNoZero", "internal/bytealg.IndexByteString", "internal/bytealg.IndexString"], unfollowed := true, recurses := true, named := ["unicode/utf8.first", "unicode/utf8.acceptRanges", "internal/bytealg.MaxLen"], apart := false, laid := [("unicode/utf8.acceptRanges", laid_unicode_utf8_acceptRanges), ("unicode/utf8.first", laid_unicode_utf8_first)] }
def HopsTellSaid : Prop := hopsTellRow.holds Tryd.pinned (OpenSpec.ofChange hopsTellSpec)

/-- ITS FALSE NEIGHBOUR: 'it returns false'. Refute it at one input. -/
def hopsTellWrong : ChangeSpec := { name := "hopsTell", fn := fun _ => fun
  | [d1, d2] => { results := [.lit (.bool false)], args := [d1, d2] }
  | _ => none }
def HopsTellWrongFalsely : Prop := hopsTellRow.holds Tryd.pinned (OpenSpec.ofChange hopsTellWrong)

/-- 'scullerylaw18.HopsMeet': WHATEVER THE INPUT: true; the input reads as it did. -/
def hopsMeetSpec : ChangeSpec := { name := "hopsMeet", fn := fun _ => fun
  | [d1, d2, d3] => { results := [.lit (.bool true)], args := [d1, d2, d3] }
  | _ => none }
def hopsMeetRow : OpenClaim := { program := "ytkjjegjafpefcaadoor", sum := "e1bbca1ff29130a87abeef9cd508ce190cc74001047a5ea9768b926c3dcc43a5", func := "scullery/scullerylaw18.HopsMeet", spec := "hopsMeet", inPlace := ["internal/abi.NoEscape", "internal/bytealg.MakeNoZero", "internal/bytealg.IndexByteString", "internal/bytealg.IndexString"], unfollowed := true, recurses := true, named := ["unicode/utf8.first", "unicode/utf8.acceptRanges", "internal/bytealg.MaxLen"], apart := false, laid := [("unicode/utf8.acceptRanges", laid_unicode_utf8_acceptRanges), ("unicode/utf8.first", laid_unicode_utf8_first)] }
def HopsMeetSaid : Prop := hopsMeetRow.holds Tryd.pinned (OpenSpec.ofChange hopsMeetSpec)

/-- ITS FALSE NEIGHBOUR: 'it returns false'. Refute it at one input. -/
def hopsMeetWrong : ChangeSpec := { name := "hopsMeet", fn := fun _ => fun
  | [d1, d2, d3] => { results := [.lit (.bool false)], args := [d1, d2, d3] }
  | _ => none }
def HopsMeetWrongFalsely : Prop := hopsMeetRow.holds Tryd.pinned (OpenSpec.ofChange hopsMeetWrong)

/-- 'scullerylaw18.HopsEnd': WHATEVER THE INPUT: true; the input reads as it did. -/
def hopsEndSpec : ChangeSpec := { name := "hopsEnd", fn := fun _ => fun
  | [d1, d2] => { results := [.lit (.bool true)], args := [d1, d2] }
  | _ => none }
def hopsEndRow : OpenClaim := { program := "ytkjjegjafpefcaadoor", sum := "e1bbca1ff29130a87abeef9cd508ce190cc74001047a5ea9768b926c3dcc43a5", func := "scullery/scullerylaw18.HopsEnd", spec := "hopsEnd", inPlace := ["internal/abi.NoEscape", "internal/bytealg.MakeNoZero", "internal/bytealg.IndexByteString", "internal/bytealg.IndexString"], unfollowed := true, recurses := true, named := ["unicode/utf8.first", "unicode/utf8.acceptRanges", "internal/bytealg.MaxLen"], apart := false, laid := [("unicode/utf8.acceptRanges", laid_unicode_utf8_acceptRanges), ("unicode/utf8.first", laid_unicode_utf8_first)] }
def HopsEndSaid : Prop := hopsEndRow.holds Tryd.pinned (OpenSpec.ofChange hopsEndSpec)

/-- ITS FALSE NEIGHBOUR: 'it returns false'. Refute it at one input. -/
def hopsEndWrong : ChangeSpec := { name := "hopsEnd", fn := fun _ => fun
  | [d1, d2] => { results := [.lit (.bool false)], args := [d1, d2] }
  | _ => none }
def HopsEndWrongFalsely : Prop := hopsEndRow.holds Tryd.pinned (OpenSpec.ofChange hopsEndWrong)

/-- 'scullerylaw12.EtagTells': WHATEVER THE INPUT: true; the input reads as it did. -/
def etagTellsSpec : ChangeSpec := { name := "etagTells", fn := fun _ => fun
  | [d1, d2, d3] => { results := [.lit (.bool true)], args := [d1, d2, d3] }
  | _ => none }
def etagTellsRow : OpenClaim := { program := "ytkjjegjafpefcaadoor", sum := "e1bbca1ff29130a87abeef9cd508ce190cc74001047a5ea9768b926c3dcc43a5", func := "scullery/scullerylaw12.EtagTells", spec := "etagTells", inPlace := ["internal/bytealg.IndexByteString", "internal/bytealg.IndexString", "internal/abi.NoEscape", "internal/bytealg.MakeNoZero"], unfollowed := true, recurses := true, named := ["internal/bytealg.MaxLen", "unicode/utf8.first", "unicode/utf8.acceptRanges"], apart := false, laid := [("unicode/utf8.acceptRanges", laid_unicode_utf8_acceptRanges), ("unicode/utf8.first", laid_unicode_utf8_first)] }
def EtagTellsSaid : Prop := etagTellsRow.holds Tryd.pinned (OpenSpec.ofChange etagTellsSpec)

/-- ITS FALSE NEIGHBOUR: 'it returns false'. Refute it at one input. -/
def etagTellsWrong : ChangeSpec := { name := "etagTells", fn := fun _ => fun
  | [d1, d2, d3] => { results := [.lit (.bool false)], args := [d1, d2, d3] }
  | _ => none }
def EtagTellsWrongFalsely : Prop := etagTellsRow.holds Tryd.pinned (OpenSpec.ofChange etagTellsWrong)

/-- 'scullerylaw12.EtagBack': WHATEVER THE INPUT: true; the input reads as it did. -/
def etagBackSpec : ChangeSpec := { name := "etagBack", fn := fun _ => fun
  | [d1, d2] => { results := [.lit (.bool true)], args := [d1, d2] }
  | _ => none }
def etagBackRow : OpenClaim := { program := "ytkjjegjafpefcaadoor", sum := "e1bbca1ff29130a87abeef9cd508ce190cc74001047a5ea9768b926c3dcc43a5", func := "scullery/scullerylaw12.EtagBack", spec := "etagBack", inPlace := ["internal/bytealg.IndexByteString", "internal/bytealg.IndexString", "internal/abi.NoEscape", "internal/bytealg.MakeNoZero"], unfollowed := true, recurses := true, named := ["internal/bytealg.MaxLen", "unicode/utf8.first", "unicode/utf8.acceptRanges"], apart := false, laid := [("unicode/utf8.acceptRanges", laid_unicode_utf8_acceptRanges), ("unicode/utf8.first", laid_unicode_utf8_first)] }
def EtagBackSaid : Prop := etagBackRow.holds Tryd.pinned (OpenSpec.ofChange etagBackSpec)

/-- ITS FALSE NEIGHBOUR: 'it returns false'. Refute it at one input. -/
def etagBackWrong : ChangeSpec := { name := "etagBack", fn := fun _ => fun
  | [d1, d2] => { results := [.lit (.bool false)], args := [d1, d2] }
  | _ => none }
def EtagBackWrongFalsely : Prop := etagBackRow.holds Tryd.pinned (OpenSpec.ofChange etagBackWrong)

/-- 'scullerylaw12.EtagHeld': WHATEVER THE INPUT: true; the input reads as it did. -/
def etagHeldSpec : ChangeSpec := { name := "etagHeld", fn := fun _ => fun
  | [d1, d2] => { results := [.lit (.bool true)], args := [d1, d2] }
  | _ => none }
def etagHeldRow : OpenClaim := { program := "ytkjjegjafpefcaadoor", sum := "e1bbca1ff29130a87abeef9cd508ce190cc74001047a5ea9768b926c3dcc43a5", func := "scullery/scullerylaw12.EtagHeld", spec := "etagHeld", inPlace := ["internal/bytealg.IndexByteString", "internal/bytealg.IndexString", "internal/abi.NoEscape", "internal/bytealg.MakeNoZero"], unfollowed := true, recurses := true, named := ["internal/bytealg.MaxLen", "unicode/utf8.first", "unicode/utf8.acceptRanges"], apart := false, laid := [("unicode/utf8.acceptRanges", laid_unicode_utf8_acceptRanges), ("unicode/utf8.first", laid_unicode_utf8_first)] }
def EtagHeldSaid : Prop := etagHeldRow.holds Tryd.pinned (OpenSpec.ofChange etagHeldSpec)

/-- ITS FALSE NEIGHBOUR: 'it returns false'. Refute it at one input. -/
def etagHeldWrong : ChangeSpec := { name := "etagHeld", fn := fun _ => fun
  | [d1, d2] => { results := [.lit (.bool false)], args := [d1, d2] }
  | _ => none }
def EtagHeldWrongFalsely : Prop := etagHeldRow.holds Tryd.pinned (OpenSpec.ofChange etagHeldWrong)

/- THE SECOND FORM. 'bulk': how many values and letters a reading holds, each counted each time it is reached (what is shared counts as often as it is met; a slice's spare places count too). A statement '..UptoSaid' is the law's where the arguments, and the package variables that the reading takes, are together of bulk at most 1048576: NARROWER than '..Said'. Prove '..Said' where nothing that the law and all that it calls make is longer than what came in: it says more and counts as full. Else prove '..UptoSaid'. A law counts once. -/
mutual
def uptoBulk {H : Type} : DataW H → Nat
  | .lit (.string bytes) => bytes.length + 1
  | .lit _ => 1
  | .nil => 1
  | .ptr d => uptoBulk d + 1
  | .slice elems spare => uptoBulkAll elems + uptoBulkAll spare + 1
  | .agg parts => uptoBulkAll parts + 1
  | .iface _ d => uptoBulk d + 1
  | .map entries => uptoBulkEntries entries + 1
  | .held _ => 1
def uptoBulkAll {H : Type} : List (DataW H) → Nat
  | [] => 0
  | d :: r => uptoBulk d + uptoBulkAll r
def uptoBulkEntries {H : Type} : List (Lit × DataW H) → Nat
  | [] => 0
  | x :: r => uptoBulkEntry x + uptoBulkEntries r
def uptoBulkEntry {H : Type} : Lit × DataW H → Nat
  | (.string bytes, d) => bytes.length + uptoBulk d + 1
  | (_, d) => uptoBulk d + 1
 end
def uptoSmall : (H : Type) → List (DataW H) → Bool := fun _ ds => decide (uptoBulkAll ds ≤ 1048576)
def OpenSpec.upto (s : _root_.Go.ChangeSpec) : _root_.Go.OpenSpec := { _root_.Go.OpenSpec.ofChange s with cond := some uptoSmall }

/-- 'scullerylaw06.HeadTells', WHERE WHAT IT READS IS OF BULK AT MOST 1048576: true; the input reads as it did. -/
def headTellsUptoRow : OpenClaim := { program := "ytkjjegjafpefcaadoor", sum := "e1bbca1ff29130a87abeef9cd508ce190cc74001047a5ea9768b926c3dcc43a5", func := "scullery/scullerylaw06.HeadTells", spec := "headTells", inPlace := ["internal/bytealg.IndexByteString", "internal/bytealg.IndexString", "internal/abi.NoEscape", "internal/bytealg.MakeNoZero"], unfollowed := true, recurses := true, named := ["internal/bytealg.MaxLen", "unicode/utf8.first", "unicode/utf8.acceptRanges"], apart := false, laid := [("unicode/utf8.acceptRanges", laid_unicode_utf8_acceptRanges), ("unicode/utf8.first", laid_unicode_utf8_first)], narrowed := true }
def HeadTellsUptoSaid : Prop := headTellsUptoRow.holds Tryd.pinned (OpenSpec.upto headTellsSpec)

/-- 'scullerylaw06.HeadLess', WHERE WHAT IT READS IS OF BULK AT MOST 1048576: true; the input reads as it did. -/
def headLessUptoRow : OpenClaim := { program := "ytkjjegjafpefcaadoor", sum := "e1bbca1ff29130a87abeef9cd508ce190cc74001047a5ea9768b926c3dcc43a5", func := "scullery/scullerylaw06.HeadLess", spec := "headLess", inPlace := ["internal/bytealg.IndexByteString", "internal/bytealg.IndexString", "internal/abi.NoEscape", "internal/bytealg.MakeNoZero"], unfollowed := true, recurses := true, named := ["internal/bytealg.MaxLen", "unicode/utf8.first", "unicode/utf8.acceptRanges"], apart := false, laid := [("unicode/utf8.acceptRanges", laid_unicode_utf8_acceptRanges), ("unicode/utf8.first", laid_unicode_utf8_first)], narrowed := true }
def HeadLessUptoSaid : Prop := headLessUptoRow.holds Tryd.pinned (OpenSpec.upto headLessSpec)

/-- 'scullerylaw06.HeadBack', WHERE WHAT IT READS IS OF BULK AT MOST 1048576: true; the input reads as it did. -/
def headBackUptoRow : OpenClaim := { program := "ytkjjegjafpefcaadoor", sum := "e1bbca1ff29130a87abeef9cd508ce190cc74001047a5ea9768b926c3dcc43a5", func := "scullery/scullerylaw06.HeadBack", spec := "headBack", inPlace := ["internal/bytealg.IndexByteString", "internal/bytealg.IndexString", "internal/abi.NoEscape", "internal/bytealg.MakeNoZero"], unfollowed := true, recurses := true, named := ["internal/bytealg.MaxLen", "unicode/utf8.first", "unicode/utf8.acceptRanges"], apart := false, laid := [("unicode/utf8.acceptRanges", laid_unicode_utf8_acceptRanges), ("unicode/utf8.first", laid_unicode_utf8_first)], narrowed := true }
def HeadBackUptoSaid : Prop := headBackUptoRow.holds Tryd.pinned (OpenSpec.upto headBackSpec)

/-- 'scullerylaw10.LegacyTells', WHERE WHAT IT READS IS OF BULK AT MOST 1048576: true; the input reads as it did. -/
def legacyTellsUptoRow : OpenClaim := { program := "ytkjjegjafpefcaadoor", sum := "e1bbca1ff29130a87abeef9cd508ce190cc74001047a5ea9768b926c3dcc43a5", func := "scullery/scullerylaw10.LegacyTells", spec := "legacyTells", inPlace := ["internal/bytealg.IndexByteString", "internal/bytealg.IndexString", "internal/abi.NoEscape", "internal/bytealg.MakeNoZero"], unfollowed := true, recurses := true, named := ["unicode/utf8.first", "unicode/utf8.acceptRanges", "internal/bytealg.MaxLen"], apart := false, laid := [("unicode/utf8.acceptRanges", laid_unicode_utf8_acceptRanges), ("unicode/utf8.first", laid_unicode_utf8_first)], narrowed := true }
def LegacyTellsUptoSaid : Prop := legacyTellsUptoRow.holds Tryd.pinned (OpenSpec.upto legacyTellsSpec)

/-- 'scullerylaw10.LegacyFirst', WHERE WHAT IT READS IS OF BULK AT MOST 1048576: true; the input reads as it did. -/
def legacyFirstUptoRow : OpenClaim := { program := "ytkjjegjafpefcaadoor", sum := "e1bbca1ff29130a87abeef9cd508ce190cc74001047a5ea9768b926c3dcc43a5", func := "scullery/scullerylaw10.LegacyFirst", spec := "legacyFirst", inPlace := ["internal/bytealg.IndexByteString", "internal/bytealg.IndexString", "internal/abi.NoEscape", "internal/bytealg.MakeNoZero"], unfollowed := true, recurses := true, named := ["unicode/utf8.first", "unicode/utf8.acceptRanges", "internal/bytealg.MaxLen"], apart := false, laid := [("unicode/utf8.acceptRanges", laid_unicode_utf8_acceptRanges), ("unicode/utf8.first", laid_unicode_utf8_first)], narrowed := true }
def LegacyFirstUptoSaid : Prop := legacyFirstUptoRow.holds Tryd.pinned (OpenSpec.upto legacyFirstSpec)

/-- 'scullerylaw10.LegacyTurned', WHERE WHAT IT READS IS OF BULK AT MOST 1048576: true; the input reads as it did. -/
def legacyTurnedUptoRow : OpenClaim := { program := "ytkjjegjafpefcaadoor", sum := "e1bbca1ff29130a87abeef9cd508ce190cc74001047a5ea9768b926c3dcc43a5", func := "scullery/scullerylaw10.LegacyTurned", spec := "legacyTurned", inPlace := ["internal/bytealg.IndexByteString", "internal/bytealg.IndexString", "internal/abi.NoEscape", "internal/bytealg.MakeNoZero"], unfollowed := true, recurses := true, named := ["unicode/utf8.first", "unicode/utf8.acceptRanges", "internal/bytealg.MaxLen"], apart := false, laid := [("unicode/utf8.acceptRanges", laid_unicode_utf8_acceptRanges), ("unicode/utf8.first", laid_unicode_utf8_first)], narrowed := true }
def LegacyTurnedUptoSaid : Prop := legacyTurnedUptoRow.holds Tryd.pinned (OpenSpec.upto legacyTurnedSpec)

/-- 'scullerylaw18.HopsTell', WHERE WHAT IT READS IS OF BULK AT MOST 1048576: true; the input reads as it did. -/
def hopsTellUptoRow : OpenClaim := { program := "ytkjjegjafpefcaadoor", sum := "e1bbca1ff29130a87abeef9cd508ce190cc74001047a5ea9768b926c3dcc43a5", func := "scullery/scullerylaw18.HopsTell", spec := "hopsTell", inPlace := ["internal/abi.NoEscape", "internal/bytealg.MakeNoZero", "internal/bytealg.IndexByteString", "internal/bytealg.IndexString"], unfollowed := true, recurses := true, named := ["unicode/utf8.first", "unicode/utf8.acceptRanges", "internal/bytealg.MaxLen"], apart := false, laid := [("unicode/utf8.acceptRanges", laid_unicode_utf8_acceptRanges), ("unicode/utf8.first", laid_unicode_utf8_first)], narrowed := true }
def HopsTellUptoSaid : Prop := hopsTellUptoRow.holds Tryd.pinned (OpenSpec.upto hopsTellSpec)

/-- 'scullerylaw18.HopsMeet', WHERE WHAT IT READS IS OF BULK AT MOST 1048576: true; the input reads as it did. -/
def hopsMeetUptoRow : OpenClaim := { program := "ytkjjegjafpefcaadoor", sum := "e1bbca1ff29130a87abeef9cd508ce190cc74001047a5ea9768b926c3dcc43a5", func := "scullery/scullerylaw18.HopsMeet", spec := "hopsMeet", inPlace := ["internal/abi.NoEscape", "internal/bytealg.MakeNoZero", "internal/bytealg.IndexByteString", "internal/bytealg.IndexString"], unfollowed := true, recurses := true, named := ["unicode/utf8.first", "unicode/utf8.acceptRanges", "internal/bytealg.MaxLen"], apart := false, laid := [("unicode/utf8.acceptRanges", laid_unicode_utf8_acceptRanges), ("unicode/utf8.first", laid_unicode_utf8_first)], narrowed := true }
def HopsMeetUptoSaid : Prop := hopsMeetUptoRow.holds Tryd.pinned (OpenSpec.upto hopsMeetSpec)

/-- 'scullerylaw18.HopsEnd', WHERE WHAT IT READS IS OF BULK AT MOST 1048576: true; the input reads as it did. -/
def hopsEndUptoRow : OpenClaim := { program := "ytkjjegjafpefcaadoor", sum := "e1bbca1ff29130a87abeef9cd508ce190cc74001047a5ea9768b926c3dcc43a5", func := "scullery/scullerylaw18.HopsEnd", spec := "hopsEnd", inPlace := ["internal/abi.NoEscape", "internal/bytealg.MakeNoZero", "internal/bytealg.IndexByteString", "internal/bytealg.IndexString"], unfollowed := true, recurses := true, named := ["unicode/utf8.first", "unicode/utf8.acceptRanges", "internal/bytealg.MaxLen"], apart := false, laid := [("unicode/utf8.acceptRanges", laid_unicode_utf8_acceptRanges), ("unicode/utf8.first", laid_unicode_utf8_first)], narrowed := true }
def HopsEndUptoSaid : Prop := hopsEndUptoRow.holds Tryd.pinned (OpenSpec.upto hopsEndSpec)

/-- 'scullerylaw12.EtagTells', WHERE WHAT IT READS IS OF BULK AT MOST 1048576: true; the input reads as it did. -/
def etagTellsUptoRow : OpenClaim := { program := "ytkjjegjafpefcaadoor", sum := "e1bbca1ff29130a87abeef9cd508ce190cc74001047a5ea9768b926c3dcc43a5", func := "scullery/scullerylaw12.EtagTells", spec := "etagTells", inPlace := ["internal/bytealg.IndexByteString", "internal/bytealg.IndexString", "internal/abi.NoEscape", "internal/bytealg.MakeNoZero"], unfollowed := true, recurses := true, named := ["internal/bytealg.MaxLen", "unicode/utf8.first", "unicode/utf8.acceptRanges"], apart := false, laid := [("unicode/utf8.acceptRanges", laid_unicode_utf8_acceptRanges), ("unicode/utf8.first", laid_unicode_utf8_first)], narrowed := true }
def EtagTellsUptoSaid : Prop := etagTellsUptoRow.holds Tryd.pinned (OpenSpec.upto etagTellsSpec)

/-- 'scullerylaw12.EtagBack', WHERE WHAT IT READS IS OF BULK AT MOST 1048576: true; the input reads as it did. -/
def etagBackUptoRow : OpenClaim := { program := "ytkjjegjafpefcaadoor", sum := "e1bbca1ff29130a87abeef9cd508ce190cc74001047a5ea9768b926c3dcc43a5", func := "scullery/scullerylaw12.EtagBack", spec := "etagBack", inPlace := ["internal/bytealg.IndexByteString", "internal/bytealg.IndexString", "internal/abi.NoEscape", "internal/bytealg.MakeNoZero"], unfollowed := true, recurses := true, named := ["internal/bytealg.MaxLen", "unicode/utf8.first", "unicode/utf8.acceptRanges"], apart := false, laid := [("unicode/utf8.acceptRanges", laid_unicode_utf8_acceptRanges), ("unicode/utf8.first", laid_unicode_utf8_first)], narrowed := true }
def EtagBackUptoSaid : Prop := etagBackUptoRow.holds Tryd.pinned (OpenSpec.upto etagBackSpec)

/-- 'scullerylaw12.EtagHeld', WHERE WHAT IT READS IS OF BULK AT MOST 1048576: true; the input reads as it did. -/
def etagHeldUptoRow : OpenClaim := { program := "ytkjjegjafpefcaadoor", sum := "e1bbca1ff29130a87abeef9cd508ce190cc74001047a5ea9768b926c3dcc43a5", func := "scullery/scullerylaw12.EtagHeld", spec := "etagHeld", inPlace := ["internal/bytealg.IndexByteString", "internal/bytealg.IndexString", "internal/abi.NoEscape", "internal/bytealg.MakeNoZero"], unfollowed := true, recurses := true, named := ["internal/bytealg.MaxLen", "unicode/utf8.first", "unicode/utf8.acceptRanges"], apart := false, laid := [("unicode/utf8.acceptRanges", laid_unicode_utf8_acceptRanges), ("unicode/utf8.first", laid_unicode_utf8_first)], narrowed := true }
def EtagHeldUptoSaid : Prop := etagHeldUptoRow.holds Tryd.pinned (OpenSpec.upto etagHeldSpec)

end Rows
end Go.Proofs.YtkjjegjafpefcaaDoor
