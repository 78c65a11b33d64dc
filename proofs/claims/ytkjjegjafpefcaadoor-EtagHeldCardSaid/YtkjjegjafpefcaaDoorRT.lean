/- The seat's program; of the world it is asked that the decoder's tables lie in it. -/
import Derived.Test.YtkjjegjafpefcaaDoorR25
import Derived.Test.YtkjjegjafpefcaaDoorX3
import Derived.KernelRfl
namespace Go.Proofs.YtkjjegjafpefcaaDoor.R
open Go Go.RowKit
set_option linter.unusedVariables false
noncomputable abbrev P : Program := Go.Proofs.Tryd.prog
def T : World → Prop := X.Tabs
theorem T_below : ∀ w w', T w → Below w.heap.size w w' → T w' := fun _ _ h hb => X.Tabs.below h hb
end Go.Proofs.YtkjjegjafpefcaaDoor.R
