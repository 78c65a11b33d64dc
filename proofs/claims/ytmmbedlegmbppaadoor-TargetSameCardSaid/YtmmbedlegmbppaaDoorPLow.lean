/- Lower letters: the program's and the document's are one. -/
import Derived.Test.YtmmbedlegmbppaaDoorPCut
import Derived.Test.YtmmbedlegmbppaaDoorF0
namespace Go.Proofs.YtmmbedlegmbppaaDoor.R
open Go Go.RowKit
set_option linter.unusedSimpArgs false
set_option linter.unusedVariables false
def lowL (l : Bs) : Bs := l.map X.lowB
theorem lower_is (l : Bs) (h : l.length ≤ 9223372036854775807) (k : Nat) : ascii_Lower.f k (B l) = some (B (lowL l)) := by
  unfold ascii_Lower.f X.ascii_Lower.f
  rw [B_size, if_pos h, B_data]
  rfl
end Go.Proofs.YtmmbedlegmbppaaDoor.R
