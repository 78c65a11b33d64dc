/-
  No cell of these rows narrows 'for every input' (looked for: loops, veiled, ifaces, maps, wideKeys, modest, calm, conditions, laid).
  DERIVED. THE GIVEN ROWS OF THIS SEAT. 6 by the template 'for every input the law returns true; each argument reads behind the call as it read before'; 0 by the template 'total and deterministic' (their statements: YtpddbfodjeoofaaTotals.lean).
  GIVEN WITH THE SEED: the statements are not yours to turn. If you find one false, say at which input.
  Laid BY PROGRAM, IN A SANDBOX (cutbox-rows.mjs): the forced cells as the released guide's own fill.sh prints them over the translation e1395d6e0e510f1c… (all of the seat's roots in one cut). By AI agents, Wed Nov 11 2026. No macro, syntax, notation, axiom, sorry.
-/
import Derived.Test.YtpddbfodjeoofaaChecked
import GoSem.Claim
import GoSem.ClaimJoined
import GoSem.ClaimMapViews
import Derived.JoinedTies
import Derived.KernelRfl
namespace Go.Proofs.Ytpddbfodjeoofaa
/- THE CELL 'sum', in the pinned program and in every row, IS THE sha256 OF THE DUMP (.gsa) THAT YtpddbfodjeoofaaProg.lean LOADS. Nothing in Lean hashes anything: it is a label: what it is worth is what the hold of that sum in a sandbox is worth. -/
noncomputable def Try.pinned : Pinned := { name := "ytpddbfodjeoofaa", sum := "e1395d6e0e510f1c7884aec34bdd56f02992985ef2e19ca0930f54d7bbf5c6db", checked := Try.checked }
namespace Rows
def none {H : Type} : Left H := { results := [], args := [] }

/-- 'scullerylaw05.DateTells': WHATEVER THE INPUT: true; the input reads as it did. -/
def dateTellsSpec : ChangeSpec := { name := "dateTells", fn := fun _ => fun
  | [d1, d2, d3] => { results := [.lit (.bool true)], args := [d1, d2, d3] }
  | _ => none }
def dateTellsRow : OpenClaim := { program := "ytpddbfodjeoofaa", sum := "e1395d6e0e510f1c7884aec34bdd56f02992985ef2e19ca0930f54d7bbf5c6db", func := "scullery/scullerylaw05.DateTells", spec := "dateTells", unfollowed := true, recurses := true, apart := false }
def DateTellsSaid : Prop := dateTellsRow.holds Try.pinned (OpenSpec.ofChange dateTellsSpec)

/-- ITS FALSE NEIGHBOUR: 'it returns false'. Refute it at one input. -/
def dateTellsWrong : ChangeSpec := { name := "dateTells", fn := fun _ => fun
  | [d1, d2, d3] => { results := [.lit (.bool false)], args := [d1, d2, d3] }
  | _ => none }
def DateTellsWrongFalsely : Prop := dateTellsRow.holds Try.pinned (OpenSpec.ofChange dateTellsWrong)

/-- 'scullerylaw05.DateBack': WHATEVER THE INPUT: true; the input reads as it did. -/
def dateBackSpec : ChangeSpec := { name := "dateBack", fn := fun _ => fun
  | [d1, d2] => { results := [.lit (.bool true)], args := [d1, d2] }
  | _ => none }
def dateBackRow : OpenClaim := { program := "ytpddbfodjeoofaa", sum := "e1395d6e0e510f1c7884aec34bdd56f02992985ef2e19ca0930f54d7bbf5c6db", func := "scullery/scullerylaw05.DateBack", spec := "dateBack", unfollowed := true, recurses := true, apart := false }
def DateBackSaid : Prop := dateBackRow.holds Try.pinned (OpenSpec.ofChange dateBackSpec)

/-- ITS FALSE NEIGHBOUR: 'it returns false'. Refute it at one input. -/
def dateBackWrong : ChangeSpec := { name := "dateBack", fn := fun _ => fun
  | [d1, d2] => { results := [.lit (.bool false)], args := [d1, d2] }
  | _ => none }
def DateBackWrongFalsely : Prop := dateBackRow.holds Try.pinned (OpenSpec.ofChange dateBackWrong)

/-- 'scullerylaw05.DateNext': WHATEVER THE INPUT: true; the input reads as it did. -/
def dateNextSpec : ChangeSpec := { name := "dateNext", fn := fun _ => fun
  | [d1, d2, d3] => { results := [.lit (.bool true)], args := [d1, d2, d3] }
  | _ => none }
def dateNextRow : OpenClaim := { program := "ytpddbfodjeoofaa", sum := "e1395d6e0e510f1c7884aec34bdd56f02992985ef2e19ca0930f54d7bbf5c6db", func := "scullery/scullerylaw05.DateNext", spec := "dateNext", unfollowed := true, recurses := true, apart := false }
def DateNextSaid : Prop := dateNextRow.holds Try.pinned (OpenSpec.ofChange dateNextSpec)

/-- ITS FALSE NEIGHBOUR: 'it returns false'. Refute it at one input. -/
def dateNextWrong : ChangeSpec := { name := "dateNext", fn := fun _ => fun
  | [d1, d2, d3] => { results := [.lit (.bool false)], args := [d1, d2, d3] }
  | _ => none }
def DateNextWrongFalsely : Prop := dateNextRow.holds Try.pinned (OpenSpec.ofChange dateNextWrong)

/-- 'scullerylaw13.AgeTells': WHATEVER THE INPUT: true; the input reads as it did. -/
def ageTellsSpec : ChangeSpec := { name := "ageTells", fn := fun _ => fun
  | [d1, d2, d3] => { results := [.lit (.bool true)], args := [d1, d2, d3] }
  | _ => none }
def ageTellsRow : OpenClaim := { program := "ytpddbfodjeoofaa", sum := "e1395d6e0e510f1c7884aec34bdd56f02992985ef2e19ca0930f54d7bbf5c6db", func := "scullery/scullerylaw13.AgeTells", spec := "ageTells", inPlace := ["internal/abi.NoEscape", "internal/bytealg.MakeNoZero"], unfollowed := true, recurses := true, apart := false }
def AgeTellsSaid : Prop := ageTellsRow.holds Try.pinned (OpenSpec.ofChange ageTellsSpec)

/-- ITS FALSE NEIGHBOUR: 'it returns false'. Refute it at one input. -/
def ageTellsWrong : ChangeSpec := { name := "ageTells", fn := fun _ => fun
  | [d1, d2, d3] => { results := [.lit (.bool false)], args := [d1, d2, d3] }
  | _ => none }
def AgeTellsWrongFalsely : Prop := ageTellsRow.holds Try.pinned (OpenSpec.ofChange ageTellsWrong)

/-- 'scullerylaw13.AgeGrows': WHATEVER THE INPUT: true; the input reads as it did. -/
def ageGrowsSpec : ChangeSpec := { name := "ageGrows", fn := fun _ => fun
  | [d1, d2] => { results := [.lit (.bool true)], args := [d1, d2] }
  | _ => none }
def ageGrowsRow : OpenClaim := { program := "ytpddbfodjeoofaa", sum := "e1395d6e0e510f1c7884aec34bdd56f02992985ef2e19ca0930f54d7bbf5c6db", func := "scullery/scullerylaw13.AgeGrows", spec := "ageGrows", inPlace := ["internal/abi.NoEscape", "internal/bytealg.MakeNoZero"], unfollowed := true, recurses := true, apart := false }
def AgeGrowsSaid : Prop := ageGrowsRow.holds Try.pinned (OpenSpec.ofChange ageGrowsSpec)

/-- ITS FALSE NEIGHBOUR: 'it returns false'. Refute it at one input. -/
def ageGrowsWrong : ChangeSpec := { name := "ageGrows", fn := fun _ => fun
  | [d1, d2] => { results := [.lit (.bool false)], args := [d1, d2] }
  | _ => none }
def AgeGrowsWrongFalsely : Prop := ageGrowsRow.holds Try.pinned (OpenSpec.ofChange ageGrowsWrong)

/-- 'scullerylaw13.AgeTold': WHATEVER THE INPUT: true; the input reads as it did. -/
def ageToldSpec : ChangeSpec := { name := "ageTold", fn := fun _ => fun
  | [d1, d2, d3] => { results := [.lit (.bool true)], args := [d1, d2, d3] }
  | _ => none }
def ageToldRow : OpenClaim := { program := "ytpddbfodjeoofaa", sum := "e1395d6e0e510f1c7884aec34bdd56f02992985ef2e19ca0930f54d7bbf5c6db", func := "scullery/scullerylaw13.AgeTold", spec := "ageTold", inPlace := ["internal/abi.NoEscape", "internal/bytealg.MakeNoZero"], unfollowed := true, recurses := true, apart := false }
def AgeToldSaid : Prop := ageToldRow.holds Try.pinned (OpenSpec.ofChange ageToldSpec)

/-- ITS FALSE NEIGHBOUR: 'it returns false'. Refute it at one input. -/
def ageToldWrong : ChangeSpec := { name := "ageTold", fn := fun _ => fun
  | [d1, d2, d3] => { results := [.lit (.bool false)], args := [d1, d2, d3] }
  | _ => none }
def AgeToldWrongFalsely : Prop := ageToldRow.holds Try.pinned (OpenSpec.ofChange ageToldWrong)

/- THE SECOND FORM. 'bulk': how many values and letters a reading holds, each counted each time it is reached (what is shared counts as often as it is met; a slice's spare places count too). A statement '..UptoSaid' is the law's where the arguments, and the package variables that the reading takes, are together of bulk at most 1048576: NARROWER than '..Said'. Prove '..Said' where nothing that the law and all that it calls make is longer than what came in: it says more and counts as full. Else prove '..UptoSaid'. A law counts once. -/
mutual
def uptoBulk {H : Type} : DataW H → Nat
  | .lit (.string bytes) => bytes.length + 1
  | .lit _ => 1
  | .nil => 1
  | .ptr d => uptoBulk d + 1
  | .slice elems spare => uptoBulkAll elems + uptoBulkAll spare + 1
  | .agg parts => uptoBulkAll parts + 1
  | .iface _ d => uptoBulk d + 1
  | .map entries => uptoBulkEntries entries + 1
  | .held _ => 1
def uptoBulkAll {H : Type} : List (DataW H) → Nat
  | [] => 0
  | d :: r => uptoBulk d + uptoBulkAll r
def uptoBulkEntries {H : Type} : List (Lit × DataW H) → Nat
  | [] => 0
  | x :: r => uptoBulkEntry x + uptoBulkEntries r
def uptoBulkEntry {H : Type} : Lit × DataW H → Nat
  | (.string bytes, d) => bytes.length + uptoBulk d + 1
  | (_, d) => uptoBulk d + 1
 end
def uptoSmall : (H : Type) → List (DataW H) → Bool := fun _ ds => decide (uptoBulkAll ds ≤ 1048576)
def OpenSpec.upto (s : _root_.Go.ChangeSpec) : _root_.Go.OpenSpec := { _root_.Go.OpenSpec.ofChange s with cond := some uptoSmall }

/-- 'scullerylaw05.DateTells', WHERE WHAT IT READS IS OF BULK AT MOST 1048576: true; the input reads as it did. -/
def dateTellsUptoRow : OpenClaim := { program := "ytpddbfodjeoofaa", sum := "e1395d6e0e510f1c7884aec34bdd56f02992985ef2e19ca0930f54d7bbf5c6db", func := "scullery/scullerylaw05.DateTells", spec := "dateTells", unfollowed := true, recurses := true, apart := false, narrowed := true }
def DateTellsUptoSaid : Prop := dateTellsUptoRow.holds Try.pinned (OpenSpec.upto dateTellsSpec)

/-- 'scullerylaw05.DateBack', WHERE WHAT IT READS IS OF BULK AT MOST 1048576: true; the input reads as it did. -/
def dateBackUptoRow : OpenClaim := { program := "ytpddbfodjeoofaa", sum := "e1395d6e0e510f1c7884aec34bdd56f02992985ef2e19ca0930f54d7bbf5c6db", func := "scullery/scullerylaw05.DateBack", spec := "dateBack", unfollowed := true, recurses := true, apart := false, narrowed := true }
def DateBackUptoSaid : Prop := dateBackUptoRow.holds Try.pinned (OpenSpec.upto dateBackSpec)

/-- 'scullerylaw05.DateNext', WHERE WHAT IT READS IS OF BULK AT MOST 1048576: true; the input reads as it did. -/
def dateNextUptoRow : OpenClaim := { program := "ytpddbfodjeoofaa", sum := "e1395d6e0e510f1c7884aec34bdd56f02992985ef2e19ca0930f54d7bbf5c6db", func := "scullery/scullerylaw05.DateNext", spec := "dateNext", unfollowed := true, recurses := true, apart := false, narrowed := true }
def DateNextUptoSaid : Prop := dateNextUptoRow.holds Try.pinned (OpenSpec.upto dateNextSpec)

/-- 'scullerylaw13.AgeTells', WHERE WHAT IT READS IS OF BULK AT MOST 1048576: true; the input reads as it did. -/
def ageTellsUptoRow : OpenClaim := { program := "ytpddbfodjeoofaa", sum := "e1395d6e0e510f1c7884aec34bdd56f02992985ef2e19ca0930f54d7bbf5c6db", func := "scullery/scullerylaw13.AgeTells", spec := "ageTells", inPlace := ["internal/abi.NoEscape", "internal/bytealg.MakeNoZero"], unfollowed := true, recurses := true, apart := false, narrowed := true }
def AgeTellsUptoSaid : Prop := ageTellsUptoRow.holds Try.pinned (OpenSpec.upto ageTellsSpec)

/-- 'scullerylaw13.AgeGrows', WHERE WHAT IT READS IS OF BULK AT MOST 1048576: true; the input reads as it did. -/
def ageGrowsUptoRow : OpenClaim := { program := "ytpddbfodjeoofaa", sum := "e1395d6e0e510f1c7884aec34bdd56f02992985ef2e19ca0930f54d7bbf5c6db", func := "scullery/scullerylaw13.AgeGrows", spec := "ageGrows", inPlace := ["internal/abi.NoEscape", "internal/bytealg.MakeNoZero"], unfollowed := true, recurses := true, apart := false, narrowed := true }
def AgeGrowsUptoSaid : Prop := ageGrowsUptoRow.holds Try.pinned (OpenSpec.upto ageGrowsSpec)

/-- 'scullerylaw13.AgeTold', WHERE WHAT IT READS IS OF BULK AT MOST 1048576: true; the input reads as it did. -/
def ageToldUptoRow : OpenClaim := { program := "ytpddbfodjeoofaa", sum := "e1395d6e0e510f1c7884aec34bdd56f02992985ef2e19ca0930f54d7bbf5c6db", func := "scullery/scullerylaw13.AgeTold", spec := "ageTold", inPlace := ["internal/abi.NoEscape", "internal/bytealg.MakeNoZero"], unfollowed := true, recurses := true, apart := false, narrowed := true }
def AgeToldUptoSaid : Prop := ageToldUptoRow.holds Try.pinned (OpenSpec.upto ageToldSpec)

end Rows
end Go.Proofs.Ytpddbfodjeoofaa
