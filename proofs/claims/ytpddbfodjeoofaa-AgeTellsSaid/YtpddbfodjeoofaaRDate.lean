/- date.Parse as a spec: out of the contract of the older walk. -/
import Derived.Test.YtpddbfodjeoofaaRT
import Derived.Test.YtpddbfodjeoofaaKDateD
namespace Go.Proofs.Ytpddbfodjeoofaa.R
open Go Go.RowKit
set_option linter.unusedVariables false
def date_Parse.f (k : Nat) (x : Tup [.str]) : Option (Tup [.int .i64, .int .i64]) := PDate.date_Parse.f 200 x
theorem date_Parse.ok : Spec.Sound P T 14 ⟨[.str], [.int .i64, .int .i64], date_Parse.f⟩ := sound_flat rfl rfl fun k x r w h hT => PDate.date_Parse.calls 200 x r.1 r.2 w h
/-- What it tells: the seconds that are found, if any. -/
theorem date_Parse.is (l : Bs) (k : Nat) : date_Parse.f k (B l) = some (match Pure.found l with
    | some a => (a, 0)
    | none => (0, 2)) := Pure.parse_eq l 200 (Nat.le_refl _)
end Go.Proofs.Ytpddbfodjeoofaa.R
