/- The first contracts: small functions of numbers alone. No conditions. -/
import Derived.Test.YtdnbiohohbnhgaaProg
import Derived.Test.YtdnbiohohbnhgaaP0
set_option linter.unusedSimpArgs false
set_option linter.unusedVariables false
namespace Go.Proofs.Ytdnbiohohbnhgaa
open Go.RowKit
/-- The call returns v and leaves the world. -/
def Same (v : Value) (w : World) (e : Ending) (w' : World) : Prop := e = .returned v ∧ w = w'
/-- The call returns v; what was there is as it was. -/
def Ret (v : Value) (w : World) (e : Ending) (w' : World) : Prop := e = .returned v ∧ Below w.heap.size w w'
theorem Same.ret {P : Program} {f : Nat} {args : Array Value} {v : Value} {w : World} (h : Calls P f args w (Same v w)) : Calls P f args w (Ret v w) := h.mono fun _ _ ⟨he, hw⟩ => ⟨he, hw ▸ Below.refl _ _⟩
end Go.Proofs.Ytdnbiohohbnhgaa
