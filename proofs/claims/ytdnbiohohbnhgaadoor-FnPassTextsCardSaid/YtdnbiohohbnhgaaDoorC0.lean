/- The first contracts: small functions of numbers alone. No conditions. -/
import Derived.Test.YtdnbiohohbnhgaaDoorProg
import Derived.Test.YtdnbiohohbnhgaaDoorP0
import Derived.Test.YtdnbiohohbnhgaaDoorA0
set_option linter.unusedSimpArgs false
set_option linter.unusedVariables false
namespace Go.Proofs.YtdnbiohohbnhgaaDoor
open Go.RowKit
theorem Same.ret {P : Program} {f : Nat} {args : Array Value} {v : Value} {w : World} (h : Calls P f args w (Same v w)) : Calls P f args w (Ret v w) := h.mono fun _ _ ⟨he, hw⟩ => ⟨he, hw ▸ Below.refl _ _⟩
end Go.Proofs.YtdnbiohohbnhgaaDoor
