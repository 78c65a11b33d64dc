/- The seat's program; of the world it is asked that the decoder's tables lie in it, and strconv's powers of ten, and the table of math/bits. -/
import Derived.Test.YtmmbedlegmbppaaDoorR25
import Derived.Test.YtmmbedlegmbppaaDoorX3
import Derived.KernelRfl
import Derived.Lib.LaidTab
import Derived.Lib.ItoaNum
import Derived.Lib.TrailingZeros
import Derived.Shelf.Unicode.PredsPay
namespace Go.Proofs.YtmmbedlegmbppaaDoor.R
open Go Go.RowKit
set_option linter.unusedVariables false
noncomputable abbrev P : Program := Go.Proofs.Tryd.prog
abbrev bitsTab : List Int := Lib.deBruijn64tab.map fun n : Nat => (n : Int)
def T (w : World) : Prop := X.Tabs w ∧ Lib.TabIs P w "internal/strconv.uint64pow10" .u64 Lib.pow10Tab ∧ Lib.TabIs P w "math/bits.deBruijn64tab" .u8 bitsTab
instance {w : World} : CoeOut (T w) (X.Tabs w) := ⟨fun h => h.1⟩
theorem tab_below {n : String} {k : IntKind} {zs : List Int} {w w' : World} (h : Lib.TabIs P w n k zs) (hb : Below w.heap.size w w') : Lib.TabIs P w' n k zs := by
  cases hg : Program.globalNamed P n with
  | none =>
    unfold Lib.TabIs World.var? at h
    rw [hg] at h
    cases h
  | some g => exact TabIs_below hg h hb
theorem T_below : ∀ w w', T w → Below w.heap.size w w' → T w' := fun _ _ h hb =>
  ⟨X.Tabs.below h.1 hb, tab_below h.2.1 hb, tab_below h.2.2 hb⟩
end Go.Proofs.YtmmbedlegmbppaaDoor.R
