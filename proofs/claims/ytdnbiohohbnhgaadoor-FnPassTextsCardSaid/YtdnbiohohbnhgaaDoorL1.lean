/- Contracts of the laws' functions that measure. No conditions. -/
import Derived.Test.YtdnbiohohbnhgaaDoorB2
set_option linter.unusedSimpArgs false
set_option linter.unusedVariables false
namespace Go.Proofs.YtdnbiohohbnhgaaDoor
open Go.RowKit

end Go.Proofs.YtdnbiohohbnhgaaDoor
