/- What the seat's functions ask of the world, out of what a row lists. -/
import Derived.Test.YtmmbedlegmbppaaGreatDoorL1
import Derived.Test.YtmmbedlegmbppaaGreatDoorRT
import Derived.Stop.LaidErr
namespace Go.Proofs.YtmmbedlegmbppaaGreatDoor.X
open Go.RowKit Go.Shelf Go.Lib
theorem bits_eq : (Rows.laid_math_bits_deBruijn64tab : DataW Unit) = Lib.tabData .u8 R.bitsTab := by kernel_rfl
theorem pow_eq : (Rows.laid_internal_strconv_uint64pow10 : DataW Unit) = Lib.tabData .u64 Lib.pow10Tab := by kernel_rfl
theorem t_of {W : World} (h : laidMet Tryz.prog listed W) : R.T W := by
  have hb : laidMet Tryz.prog (("math/bits.deBruijn64tab", Lib.tabData .u8 R.bitsTab) :: _) W := bits_eq ▸ h.tail
  have hp : laidMet Tryz.prog (("internal/strconv.uint64pow10", Lib.tabData .u64 Lib.pow10Tab) :: _) W := pow_eq ▸ h.tail.tail
  exact ⟨tabs_of h, Lib.tabIs_of_head (g := 0) (t := 150) (e := 129) (n := 20) (by kernel_rfl) (by kernel_rfl) (by kernel_rfl) (by kernel_rfl) (by kernel_rfl) (by kernel_rfl) hp, Lib.tabIs_of_head (g := 5) (t := 181) (e := 5) (n := 64) (by kernel_rfl) (by kernel_rfl) (by kernel_rfl) (by kernel_rfl) (by kernel_rfl) (by kernel_rfl) hb⟩
end Go.Proofs.YtmmbedlegmbppaaGreatDoor.X
