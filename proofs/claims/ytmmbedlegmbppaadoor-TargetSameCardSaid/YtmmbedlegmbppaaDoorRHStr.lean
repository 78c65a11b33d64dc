/- Searches in texts as specs. -/
import Derived.Test.YtmmbedlegmbppaaDoorRT
import Derived.Test.YtmmbedlegmbppaaDoorShelf
namespace Go.Proofs.YtmmbedlegmbppaaDoor.R
open Go Go.RowKit
set_option linter.unusedVariables false
def x_Index.f (k : Nat) (x : Tup [.str, .str]) : Option (Tup [.int .i64]) := match x.2.data.toList with
  | [c] => some (Lib.indexByte x.1.data.toList c)
  | _ => none
theorem x_Index.ok : Spec.Sound P T 142 ⟨[.str, .str], [.int .i64], x_Index.f⟩ := sound_flat rfl rfl fun k x r w h hT => by
  obtain ⟨s, t⟩ := x
  simp only [x_Index.f] at h
  split at h
  · rename_i c hc
    obtain rfl := Option.some.inj h
    obtain rfl : t = ⟨#[c]⟩ := by
      obtain ⟨d⟩ := t
      congr 1
      apply Array.ext'
      exact hc
    refine (Tryd.stringslite_Index_one s c w).mono ?_
    rintro e w1 ⟨rfl, rfl⟩
    exact ⟨rfl, Below.refl _ _⟩
  · cases h
end Go.Proofs.YtmmbedlegmbppaaDoor.R
