/- The first small test of layer 9 says yes. -/
import Derived.Test.YtmmbedlegmbppaaDoorF0
namespace Go.Proofs.YtmmbedlegmbppaaDoor.R
open Go
theorem awake09 : law09_awake.f 1000 () = some true := by decide +kernel
end Go.Proofs.YtmmbedlegmbppaaDoor.R
