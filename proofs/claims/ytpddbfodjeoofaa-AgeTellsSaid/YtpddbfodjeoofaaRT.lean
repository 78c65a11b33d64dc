/- The seat's program; nothing is asked of the world. -/
import Derived.Test.YtpddbfodjeoofaaR25
import Derived.KernelRfl
namespace Go.Proofs.Ytpddbfodjeoofaa.R
open Go Go.RowKit
set_option linter.unusedVariables false
noncomputable abbrev P : Program := Go.Proofs.Try.prog
def T : World → Prop := fun _ => True
theorem T_below : ∀ w w', T w → Below w.heap.size w w' → T w' := fun _ _ h _ => h
end Go.Proofs.Ytpddbfodjeoofaa.R
