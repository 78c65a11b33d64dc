/- What the seat's functions ask of the world, out of what a row lists. -/
import Derived.Test.YtmmbedlegmbppaaDoorL1
import Derived.Test.YtmmbedlegmbppaaDoorRT
import Derived.Stop.LaidErr
namespace Go.Proofs.YtmmbedlegmbppaaDoor.X
open Go.RowKit Go.Shelf Go.Lib
theorem bits_eq : (Rows.laid_math_bits_deBruijn64tab : DataW Unit) = Lib.tabData .u8 R.bitsTab := by kernel_rfl
theorem pow_eq : (Rows.laid_internal_strconv_uint64pow10 : DataW Unit) = Lib.tabData .u64 Lib.pow10Tab := by kernel_rfl
theorem t_of {W : World} (h : laidMet Tryd.prog listed W) : R.T W := by
  have hb : laidMet Tryd.prog (("math/bits.deBruijn64tab", Lib.tabData .u8 R.bitsTab) :: _) W := bits_eq ▸ h.tail
  have hp : laidMet Tryd.prog (("internal/strconv.uint64pow10", Lib.tabData .u64 Lib.pow10Tab) :: _) W := pow_eq ▸ h.tail.tail
  exact ⟨tabs_of h, Lib.tabIs_of_head (g := 3) (t := 187) (e := 90) (n := 20) (by kernel_rfl) (by kernel_rfl) (by kernel_rfl) (by kernel_rfl) (by kernel_rfl) (by kernel_rfl) hp, Lib.tabIs_of_head (g := 7) (t := 203) (e := 5) (n := 64) (by kernel_rfl) (by kernel_rfl) (by kernel_rfl) (by kernel_rfl) (by kernel_rfl) (by kernel_rfl) hb⟩
end Go.Proofs.YtmmbedlegmbppaaDoor.X
