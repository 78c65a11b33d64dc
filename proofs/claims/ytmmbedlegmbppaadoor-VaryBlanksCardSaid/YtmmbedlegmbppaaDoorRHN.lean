/- Decimal numerals, and cutting bytes of a set off a text's beginning, as specs. -/
import Derived.Test.YtmmbedlegmbppaaDoorRT
import Derived.Test.YtmmbedlegmbppaaDoorShelf
import Derived.Shelf.Strings.SlTrimAscii
import Derived.Lib.AppendIntMem
namespace Go.Proofs.YtmmbedlegmbppaaDoor.R
open Go Go.RowKit
set_option linter.unusedVariables false
def x_Itoa.f (k : Nat) (x : Tup [.int .i64]) : Option (Tup [.str]) := if -9223372036854775808 ≤ x ∧ x ≤ 9223372036854775807 then some ⟨(Lib.itoa x).toArray⟩ else none
theorem x_Itoa.ok : Spec.Sound P T 51 ⟨[.int .i64], [.str], x_Itoa.f⟩ := sound_flat rfl rfl fun k x r w h hT => by
  simp only [x_Itoa.f] at h
  split at h
  · rename_i hc
    obtain rfl := Option.some.inj h
    refine (Tryd.strconv_Itoa x hc.1 hc.2 w hT.2.1).mono ?_
    rintro e w1 ⟨rfl, q, os, rfl⟩
    exact ⟨rfl, Lib.below_grow _ w (Nat.le_refl _) q os⟩
  · cases h
def asciiN (l : List UInt8) : Bool := l.all fun b => decide (b.toNat < 128)
def x_TrimLeft.f (k : Nat) (x : Tup [.str, .str]) : Option (Tup [.str]) := if asciiN x.2.data.toList = true ∧ x.2.size < 4294967281 then some ⟨(Lib.trimLeftS x.1.data.toList x.2.data.toList).toArray⟩ else none
theorem x_TrimLeft.ok : Spec.Sound P T 115 ⟨[.str, .str], [.str], x_TrimLeft.f⟩ := sound_flat rfl rfl fun k x r w h hT => by
  obtain ⟨s, t⟩ := x
  simp only [x_TrimLeft.f] at h
  split at h
  · rename_i hc
    obtain rfl := Option.some.inj h
    refine (Any.strings_TrimLeft_laid Tryd.lays161 (by kernel_rfl) s t w hc.2 (ascii_of_all hc.1)).mono ?_
    rintro e w1 ⟨rfl, hb⟩
    exact ⟨rfl, hb⟩
  · cases h
end Go.Proofs.YtmmbedlegmbppaaDoor.R
