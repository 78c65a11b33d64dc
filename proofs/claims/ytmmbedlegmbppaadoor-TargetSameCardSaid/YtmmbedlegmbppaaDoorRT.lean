/- The seat's program; of the world it is asked that the decoder's tables lie in it, and that strconv's first error variable holds an error. -/
import Derived.Test.YtmmbedlegmbppaaDoorR25
import Derived.Test.YtmmbedlegmbppaaDoorX3
import Derived.KernelRfl
import Derived.Lib.AtoiErrMem
namespace Go.Proofs.YtmmbedlegmbppaaDoor.R
open Go Go.RowKit
set_option linter.unusedVariables false
noncomputable abbrev P : Program := Go.Proofs.Tryd.prog
def T (w : World) : Prop := X.Tabs w ∧ ∃ (tp : TypeId) (p : Value), w.cell? ⟨1, 0, none⟩ = some (.iface tp p)
instance {w : World} : CoeOut (T w) (X.Tabs w) := ⟨fun h => h.1⟩
theorem T_below : ∀ w w', T w → Below w.heap.size w w' → T w' := fun _ _ h hb =>
  ⟨X.Tabs.below h.1 hb, let ⟨tp, p, e⟩ := h.2; ⟨tp, p, (hb.cell (Lib.lt_of_cell e)).trans e⟩⟩
end Go.Proofs.YtmmbedlegmbppaaDoor.R
