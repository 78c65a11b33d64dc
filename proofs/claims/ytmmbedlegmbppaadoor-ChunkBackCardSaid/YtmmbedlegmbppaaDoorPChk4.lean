/- Chunked bodies: the document reads them alike. -/
import Derived.Test.YtmmbedlegmbppaaDoorPChk3
namespace Go.Proofs.YtmmbedlegmbppaaDoor.R
open Go Go.RowKit
set_option linter.unusedSimpArgs false
set_option linter.unusedVariables false
end Go.Proofs.YtmmbedlegmbppaaDoor.R
