/- Searches in texts as specs: how many of a byte; where a byte, a rune or one of some bytes stands. -/
import Derived.Test.YtmmbedlegmbppaaDoorRT
import Derived.Test.YtmmbedlegmbppaaDoorShelf
import Derived.Shelf.Strings.SlTrimAscii
namespace Go.Proofs.YtmmbedlegmbppaaDoor.R
open Go Go.RowKit
set_option linter.unusedVariables false
def x_Count.f (k : Nat) (x : Tup [.str, .str]) : Option (Tup [.int .i64]) := match x.2.data.toList with
  | [c] => some ((Lib.countByte x.1.data.toList c : Nat) : Int)
  | _ => none
theorem one_byte {t : ByteArray} {c : UInt8} (hc : t.data.toList = [c]) : t = ⟨#[c]⟩ := by
  obtain ⟨d⟩ := t
  congr 1
  apply Array.ext'
  exact hc
theorem x_Count.ok : Spec.Sound P T 58 ⟨[.str, .str], [.int .i64], x_Count.f⟩ := sound_flat rfl rfl fun k x r w h hT => by
  obtain ⟨s, t⟩ := x
  simp only [x_Count.f] at h
  split at h
  · rename_i c hc
    obtain rfl := Option.some.inj h
    obtain rfl := one_byte hc
    refine (Tryd.strings_Count_one s c w).mono ?_
    rintro e w1 ⟨rfl, rfl⟩
    exact ⟨rfl, Below.refl _ _⟩
  · cases h
def x_IndexByte.f (k : Nat) (x : Tup [.str, .int .u8]) : Option (Tup [.int .i64]) := some (Lib.indexByte x.1.data.toList x.2.toNat.toUInt8)
theorem x_IndexByte.ok : Spec.Sound P T 67 ⟨[.str, .int .u8], [.int .i64], x_IndexByte.f⟩ := sound_flat rfl rfl fun k x r w h hT => by
  obtain ⟨s, c⟩ := x
  obtain rfl := Option.some.inj h
  refine (Tryd.strings_IndexByte s c w).mono ?_
  rintro e w1 ⟨rfl, rfl⟩
  exact ⟨rfl, Below.refl _ _⟩
def x_ContainsRune.f (k : Nat) (x : Tup [.str, .int .i32]) : Option (Tup [.bool]) := if 0 ≤ x.2 ∧ x.2 < 128 then some (decide (0 ≤ Lib.indexByte x.1.data.toList x.2.toNat.toUInt8)) else none
theorem x_ContainsRune.ok : Spec.Sound P T 63 ⟨[.str, .int .i32], [.bool], x_ContainsRune.f⟩ := sound_flat rfl rfl fun k x r w h hT => by
  obtain ⟨s, c⟩ := x
  simp only [x_ContainsRune.f] at h
  split at h
  · rename_i hc
    obtain rfl := Option.some.inj h
    refine (Tryd.strings_ContainsRune_ascii s c w hc.1 hc.2).mono ?_
    rintro e w1 ⟨rfl, rfl⟩
    exact ⟨rfl, Below.refl _ _⟩
  · cases h
def asciiB (l : List UInt8) : Bool := l.all fun b => decide (b.toNat < 128)
def x_IndexAnyL.f (k : Nat) (x : Tup [.str, .str]) : Option (Tup [.int .i64]) := if asciiB x.2.data.toList = true ∧ 2 ≤ x.2.size ∧ 8 < x.1.size ∧ x.1.size < 4294967281 ∧ x.2.size < 4294967281 then some (Lib.indexAny x.1.data.toList x.2.data.toList) else none
theorem x_IndexAnyL.ok : Spec.Sound P T 110 ⟨[.str, .str], [.int .i64], x_IndexAnyL.f⟩ := sound_flat rfl rfl fun k x r w h hT => by
  obtain ⟨s, t⟩ := x
  simp only [x_IndexAnyL.f] at h
  split at h
  · rename_i hc
    obtain rfl := Option.some.inj h
    refine (Tryd.strings_IndexAny_long (zero_of_info (P := Tryd.prog) (n := 256) (by kernel_rfl)).1 s t w hc.2.1 hc.2.2.1 hc.2.2.2.1 hc.2.2.2.2 (ascii_of_all hc.1)).mono ?_
    rintro e w1 ⟨rfl, rfl⟩
    exact ⟨rfl, ((Below.refl _ _).alloc (Nat.le_refl _) _).alloc (by simp) _⟩
  · cases h
end Go.Proofs.YtmmbedlegmbppaaDoor.R
