/- The listed tables: what the rows' list gives, and a world that holds them. -/
import Derived.Test.YtmmbedlegmbppaaDoorX3
import Derived.Test.YtmmbedlegmbppaaDoorRows
import Derived.Lib.LaidU8T
import Derived.Lib.LaidIn
import Derived.Deep.DeepHandedRow
import Derived.Deep.DeepWitnessRowRef
namespace Go.Proofs.YtmmbedlegmbppaaDoor.X
open Go.RowKit Go.Shelf Go.Lib
abbrev listed : List (String × DataW Unit) := [("math/bits.deBruijn32tab", Rows.laid_math_bits_deBruijn32tab), ("math/bits.deBruijn64tab", Rows.laid_math_bits_deBruijn64tab), ("internal/strconv.uint64pow10", Rows.laid_internal_strconv_uint64pow10), ("unicode/utf8.acceptRanges", Rows.laid_unicode_utf8_acceptRanges), ("strconv.ErrRange", Rows.laid_strconv_ErrRange), ("strconv.ErrSyntax", Rows.laid_strconv_ErrSyntax), ("unicode/utf8.first", Rows.laid_unicode_utf8_first)]
theorem accept_eq : (Rows.laid_unicode_utf8_acceptRanges : DataW Unit) = Lib.acceptData := by kernel_rfl
theorem first_eq : Rows.laid_unicode_utf8_first = Lib.firstData := by kernel_rfl
theorem tabs_of {W : World} (h : laidMet Tryd.prog listed W) : Tabs W := by
  have h1 := Lib.laidMet.reads h (.tail _ (.tail _ (.tail _ (.head _))))
  have h2 := Lib.laidMet.reads h (.tail _ (.tail _ (.tail _ (.tail _ (.tail _ (.tail _ (.head _)))))))
  rw [accept_eq] at h1
  rw [first_eq] at h2
  exact utf8Tabs_of_readsT (U8Types.of260 Tryd.lays260) ⟨by kernel_rfl, by kernel_rfl, by kernel_rfl, by kernel_rfl, by kernel_rfl, by kernel_rfl, by kernel_rfl⟩ h2 h1
theorem own : ownKnob Tryd.prog.godebug = none := by kernel_rfl
/-- A table's values; an error's text. -/
def litV : DataW Unit → Value
  | .lit (.int k n) => .int k n
  | _ => .bool false
def aggV : DataW Unit → Array Value
  | .agg ps => (ps.map litV).toArray
  | _ => #[]
def errV : DataW Unit → Array Value
  | .iface _ (.ptr (.agg [.lit (.string b)])) => #[.string ⟨b.toArray⟩]
  | _ => #[]
noncomputable def laidWorld (os : Os) : World :=
  let w0 := World.holding Tryd.prog os ⟨#[], #[], []⟩
  let put (h : Array Obj) (g : Nat) (cs : Array Value) : Array Obj := h.modify g fun
    | .cells _ t frozen => .cells cs t frozen
    | o => o
  let h1 := put w0.heap 4 (Lib.firstTab.map fun z => Value.int .u8 z).toArray
  let h2 := put h1 5 ((List.range 16).flatMap fun i => [Value.int .u8 (Lib.accLo i), Value.int .u8 (Lib.accHi i)]).toArray
  let h3 := put h2 6 (aggV Rows.laid_math_bits_deBruijn32tab)
  let h4 := put h3 7 (aggV Rows.laid_math_bits_deBruijn64tab)
  let h5 := put h4 3 (aggV Rows.laid_internal_strconv_uint64pow10)
  let h6 := (put h5 2 #[.iface 195 (.pointer (some ⟨13, 0, none⟩))]).push (.cells (errV Rows.laid_strconv_ErrRange) 197 (0, 0))
  let h7 := (put h6 1 #[.iface 195 (.pointer (some ⟨14, 0, none⟩))]).push (.cells (errV Rows.laid_strconv_ErrSyntax) 197 (0, 0))
  { w0 with heap := h7 }
theorem laid_met (os : Os) (args : Array Value) : laidMet Tryd.prog listed ((laidWorld os).forCall (fun _ _ => 0) ⟨#[], args, []⟩).memory :=
  (LaidIn.of_run (l := [("math/bits.deBruijn32tab", Rows.laid_math_bits_deBruijn32tab), ("math/bits.deBruijn64tab", Rows.laid_math_bits_deBruijn64tab), ("internal/strconv.uint64pow10", Rows.laid_internal_strconv_uint64pow10), ("unicode/utf8.acceptRanges", Rows.laid_unicode_utf8_acceptRanges), ("strconv.ErrRange", Rows.laid_strconv_ErrRange), ("strconv.ErrSyntax", Rows.laid_strconv_ErrSyntax), ("unicode/utf8.first", Rows.laid_unicode_utf8_first)]) [5, 4, 6, 7, 3, 2, 13, 1, 14] 8 (by kernel_rfl) (by kernel_rfl) (by kernel_rfl) (by kernel_rfl)).met
end Go.Proofs.YtmmbedlegmbppaaDoor.X
