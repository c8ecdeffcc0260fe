import Derived.Test.YtkcgejbnhpccdaaGreatT10
import Derived.Test.YtkcgejbnhpccdaaGreatT01
import Derived.Deep.RegionHeld3
set_option linter.unusedSimpArgs false
set_option linter.unusedVariables false
namespace Go.Proofs.YtkcgejbnhpccdaaGreat
open Go.RowKit
def seenR (x : XRes) : XRes := ⟨x.code, x.value, x.out, x.mem, 0⟩
end Go.Proofs.YtkcgejbnhpccdaaGreat
