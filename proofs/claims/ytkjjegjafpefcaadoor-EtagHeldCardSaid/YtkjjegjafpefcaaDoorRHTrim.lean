/- strings.Trim and strings.TrimLeft with ASCII cutsets, as specs. -/
import Derived.Test.YtkjjegjafpefcaaDoorRT
import Derived.Test.YtkjjegjafpefcaaDoorShelf
import Derived.Shelf.Strings.SlTrimAscii
namespace Go.Proofs.YtkjjegjafpefcaaDoor.R
open Go Go.RowKit
set_option linter.unusedVariables false
def asciiB (l : List UInt8) : Bool := l.all fun b => decide (b.toNat < 128)
def x_TrimLeft.f (k : Nat) (x : Tup [.str, .str]) : Option (Tup [.str]) := if asciiB x.2.data.toList = true ∧ x.2.size < 4294967281 then some ⟨(Lib.trimLeftS x.1.data.toList x.2.data.toList).toArray⟩ else none
theorem x_TrimLeft.ok : Spec.Sound P T 105 ⟨[.str, .str], [.str], x_TrimLeft.f⟩ := sound_flat rfl rfl fun k x r w h hT => by
  obtain ⟨s, t⟩ := x
  simp only [x_TrimLeft.f] at h
  split at h
  · rename_i hc
    obtain rfl := Option.some.inj h
    refine (Any.strings_TrimLeft_laid Tryd.lays161 (by kernel_rfl) s t w hc.2 (ascii_of_all hc.1)).mono ?_
    rintro e w1 ⟨rfl, hB⟩
    exact ⟨rfl, hB⟩
  · cases h
def x_Trim.f (k : Nat) (x : Tup [.str, .str]) : Option (Tup [.str]) := if (asciiB x.2.data.toList = true ∧ x.2.size < 4294967281) ∧ x.1.size ≤ 9223372036854775807 then some ⟨(Lib.trimS x.1.data.toList x.2.data.toList).toArray⟩ else none
theorem x_Trim.ok : Spec.Sound P T 104 ⟨[.str, .str], [.str], x_Trim.f⟩ := sound_flat rfl rfl fun k x r w h hT => by
  obtain ⟨s, t⟩ := x
  simp only [x_Trim.f] at h
  split at h
  · rename_i hc
    obtain rfl := Option.some.inj h
    refine (Any.strings_Trim_laid Tryd.lays160 (by kernel_rfl) s t w hc.2 hc.1.2 (ascii_of_all hc.1.1)).mono ?_
    rintro e w1 ⟨rfl, hB⟩
    exact ⟨rfl, hB⟩
  · cases h
end Go.Proofs.YtkjjegjafpefcaaDoor.R
