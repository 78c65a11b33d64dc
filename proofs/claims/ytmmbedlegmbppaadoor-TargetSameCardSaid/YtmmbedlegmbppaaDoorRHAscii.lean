/- The functions of ascii that are told by hand, as specs. -/
import Derived.Test.YtmmbedlegmbppaaDoorRT
namespace Go.Proofs.YtmmbedlegmbppaaDoor.R
open Go Go.RowKit
set_option linter.unusedVariables false
def ascii_Token.f (k : Nat) (x : Tup [.str]) : Option (Tup [.bool]) := X.ascii_Token.f x
theorem ascii_Token.ok : Spec.Sound P T 43 ⟨[.str], [.bool], ascii_Token.f⟩ := sound_flat rfl rfl fun k x r w h hT => X.ascii_Token.calls x r w h
def ascii_Text.f (k : Nat) (x : Tup [.str]) : Option (Tup [.bool]) := X.ascii_Text.f x
theorem ascii_Text.ok : Spec.Sound P T 117 ⟨[.str], [.bool], ascii_Text.f⟩ := sound_flat rfl rfl fun k x r w h hT => X.ascii_Text.calls x r w hT h
def ascii_Trim.f (k : Nat) (x : Tup [.str]) : Option (Tup [.str]) := X.ascii_Trim.f x
theorem ascii_Trim.ok : Spec.Sound P T 87 ⟨[.str], [.str], ascii_Trim.f⟩ := sound_flat rfl rfl fun k x r w h hT => X.ascii_Trim.calls x r w hT h
def ascii_Lower.f (k : Nat) (x : Tup [.str]) : Option (Tup [.str]) := X.ascii_Lower.f x
theorem ascii_Lower.ok : Spec.Sound P T 44 ⟨[.str], [.str], ascii_Lower.f⟩ := sound_flat rfl rfl fun k x r w h hT => X.ascii_Lower.calls x r w h
def ascii_Digits.f (k : Nat) (x : Tup [.str]) : Option (Tup [.int .i64, .bool]) := X.ascii_Digits.f x
theorem ascii_Digits.ok : Spec.Sound P T 59 ⟨[.str], [.int .i64, .bool], ascii_Digits.f⟩ := sound_flat rfl rfl fun k x r w h hT => X.ascii_Digits.calls x r.1 r.2 w h
end Go.Proofs.YtmmbedlegmbppaaDoor.R
