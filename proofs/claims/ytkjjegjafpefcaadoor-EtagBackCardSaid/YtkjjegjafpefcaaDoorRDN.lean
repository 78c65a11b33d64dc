/- date.Parse, of which nothing is told. -/
import Derived.Test.YtkjjegjafpefcaaDoorRT
namespace Go.Proofs.YtkjjegjafpefcaaDoor.R
open Go Go.RowKit
set_option linter.unusedVariables false
def date_Parse.f (k : Nat) (x : Tup [.str]) : Option (Tup [.int .i64, .int .i64]) := none
theorem date_Parse.ok : Spec.Sound P T 147 ⟨[.str], [.int .i64, .int .i64], date_Parse.f⟩ := by
  intro k x r h
  cases h
end Go.Proofs.YtkjjegjafpefcaaDoor.R
