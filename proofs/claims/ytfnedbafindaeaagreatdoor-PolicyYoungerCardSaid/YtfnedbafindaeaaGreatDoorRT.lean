/- The seat's program; of the world it is asked that the decoder's tables lie in it. -/
import Derived.Test.YtfnedbafindaeaaGreatDoorR25
import Derived.Test.YtfnedbafindaeaaGreatDoorX3
import Derived.KernelRfl
namespace Go.Proofs.YtfnedbafindaeaaGreatDoor.R
open Go Go.RowKit
set_option linter.unusedVariables false
noncomputable abbrev P : Program := Go.Proofs.Tryz.prog
def T : World → Prop := X.Tabs
theorem T_below : ∀ w w', T w → Below w.heap.size w w' → T w' := fun _ _ h hb => X.Tabs.below h hb
end Go.Proofs.YtfnedbafindaeaaGreatDoor.R
