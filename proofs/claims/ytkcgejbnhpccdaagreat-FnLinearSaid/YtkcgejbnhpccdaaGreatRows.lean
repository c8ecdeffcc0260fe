/-
  No cell of these rows narrows 'for every input' (looked for: loops, veiled, ifaces, maps, wideKeys, modest, calm, conditions, laid).
  DERIVED. THE GIVEN ROWS OF THIS SEAT. 10 by the template 'for every input the law returns true; each argument reads behind the call as it read before'; 0 by the template 'total and deterministic' (their statements: YtkcgejbnhpccdaaGreatTotals.lean).
  GIVEN WITH THE SEED: the statements are not yours to turn. If you find one false, say at which input.
  Laid BY PROGRAM, IN A SANDBOX (cutbox-rows.mjs): the forced cells as the released guide's own fill.sh prints them over the translation ec57010165fc5790… (all of the seat's roots in one cut). By AI agents, Wed Nov 11 2026. No macro, syntax, notation, axiom, sorry.
-/
import Derived.Test.YtkcgejbnhpccdaaGreatChecked
import GoSem.Claim
import GoSem.ClaimJoined
import GoSem.ClaimMapViews
import Derived.JoinedTies
import Derived.KernelRfl
namespace Go.Proofs.YtkcgejbnhpccdaaGreat
/- THE CELL 'sum', in the pinned program and in every row, IS THE sha256 OF THE DUMP (.gsa) THAT YtkcgejbnhpccdaaGreatProg.lean LOADS. Nothing in Lean hashes anything: it is a label: what it is worth is what the hold of that sum in a sandbox is worth. -/
noncomputable def Tryz.pinned : Pinned := { name := "ytkcgejbnhpccdaagreat", sum := "ec57010165fc5790465aae1612eae27cd05e4b65dab2bd6e669c66aaaf74d46f", checked := Tryz.checked }
namespace Rows
def none {H : Type} : Left H := { results := [], args := [] }

/-- 'laws.FnMemory': WHATEVER THE INPUT: true; the input reads as it did. -/
def fnMemorySpec : ChangeSpec := { name := "fnMemory", fn := fun _ => fun
  | [d] => { results := [.lit (.bool true)], args := [d] }
  | _ => none }
def fnMemoryRow : OpenClaim := { program := "ytkcgejbnhpccdaagreat", sum := "ec57010165fc5790465aae1612eae27cd05e4b65dab2bd6e669c66aaaf74d46f", func := "loop.example/g00457/laws.FnMemory", spec := "fnMemory", unfollowed := true, recurses := true, apart := false }
def FnMemorySaid : Prop := fnMemoryRow.holds Tryz.pinned (OpenSpec.ofChange fnMemorySpec)

/-- ITS FALSE NEIGHBOUR: 'it returns false'. Refute it at one input. -/
def fnMemoryWrong : ChangeSpec := { name := "fnMemory", fn := fun _ => fun
  | [d] => { results := [.lit (.bool false)], args := [d] }
  | _ => none }
def FnMemoryWrongFalsely : Prop := fnMemoryRow.holds Tryz.pinned (OpenSpec.ofChange fnMemoryWrong)

/-- 'laws.FnCalls': WHATEVER THE INPUT: true; the input reads as it did. -/
def fnCallsSpec : ChangeSpec := { name := "fnCalls", fn := fun _ => fun
  | [d] => { results := [.lit (.bool true)], args := [d] }
  | _ => none }
def fnCallsRow : OpenClaim := { program := "ytkcgejbnhpccdaagreat", sum := "ec57010165fc5790465aae1612eae27cd05e4b65dab2bd6e669c66aaaf74d46f", func := "loop.example/g00457/laws.FnCalls", spec := "fnCalls", unfollowed := true, recurses := true, apart := false }
def FnCallsSaid : Prop := fnCallsRow.holds Tryz.pinned (OpenSpec.ofChange fnCallsSpec)

/-- ITS FALSE NEIGHBOUR: 'it returns false'. Refute it at one input. -/
def fnCallsWrong : ChangeSpec := { name := "fnCalls", fn := fun _ => fun
  | [d] => { results := [.lit (.bool false)], args := [d] }
  | _ => none }
def FnCallsWrongFalsely : Prop := fnCallsRow.holds Tryz.pinned (OpenSpec.ofChange fnCallsWrong)

/-- 'laws.FnFuel': WHATEVER THE INPUT: true; the input reads as it did. -/
def fnFuelSpec : ChangeSpec := { name := "fnFuel", fn := fun _ => fun
  | [d] => { results := [.lit (.bool true)], args := [d] }
  | _ => none }
def fnFuelRow : OpenClaim := { program := "ytkcgejbnhpccdaagreat", sum := "ec57010165fc5790465aae1612eae27cd05e4b65dab2bd6e669c66aaaf74d46f", func := "loop.example/g00457/laws.FnFuel", spec := "fnFuel", unfollowed := true, recurses := true, apart := false }
def FnFuelSaid : Prop := fnFuelRow.holds Tryz.pinned (OpenSpec.ofChange fnFuelSpec)

/-- ITS FALSE NEIGHBOUR: 'it returns false'. Refute it at one input. -/
def fnFuelWrong : ChangeSpec := { name := "fnFuel", fn := fun _ => fun
  | [d] => { results := [.lit (.bool false)], args := [d] }
  | _ => none }
def FnFuelWrongFalsely : Prop := fnFuelRow.holds Tryz.pinned (OpenSpec.ofChange fnFuelWrong)

/-- 'laws.FnInvoked': WHATEVER THE INPUT: true; the input reads as it did. -/
def fnInvokedSpec : ChangeSpec := { name := "fnInvoked", fn := fun _ => fun
  | [d] => { results := [.lit (.bool true)], args := [d] }
  | _ => none }
def fnInvokedRow : OpenClaim := { program := "ytkcgejbnhpccdaagreat", sum := "ec57010165fc5790465aae1612eae27cd05e4b65dab2bd6e669c66aaaf74d46f", func := "loop.example/g00457/laws.FnInvoked", spec := "fnInvoked", unfollowed := true, recurses := true, apart := false }
def FnInvokedSaid : Prop := fnInvokedRow.holds Tryz.pinned (OpenSpec.ofChange fnInvokedSpec)

/-- ITS FALSE NEIGHBOUR: 'it returns false'. Refute it at one input. -/
def fnInvokedWrong : ChangeSpec := { name := "fnInvoked", fn := fun _ => fun
  | [d] => { results := [.lit (.bool false)], args := [d] }
  | _ => none }
def FnInvokedWrongFalsely : Prop := fnInvokedRow.holds Tryz.pinned (OpenSpec.ofChange fnInvokedWrong)

/-- 'laws.FnHolds': WHATEVER THE INPUT: true; the input reads as it did. -/
def fnHoldsSpec : ChangeSpec := { name := "fnHolds", fn := fun _ => fun
  | [d] => { results := [.lit (.bool true)], args := [d] }
  | _ => none }
def fnHoldsRow : OpenClaim := { program := "ytkcgejbnhpccdaagreat", sum := "ec57010165fc5790465aae1612eae27cd05e4b65dab2bd6e669c66aaaf74d46f", func := "loop.example/g00457/laws.FnHolds", spec := "fnHolds", unfollowed := true, recurses := true, apart := false }
def FnHoldsSaid : Prop := fnHoldsRow.holds Tryz.pinned (OpenSpec.ofChange fnHoldsSpec)

/-- ITS FALSE NEIGHBOUR: 'it returns false'. Refute it at one input. -/
def fnHoldsWrong : ChangeSpec := { name := "fnHolds", fn := fun _ => fun
  | [d] => { results := [.lit (.bool false)], args := [d] }
  | _ => none }
def FnHoldsWrongFalsely : Prop := fnHoldsRow.holds Tryz.pinned (OpenSpec.ofChange fnHoldsWrong)

/-- 'laws.FnFirstBad': WHATEVER THE INPUT: true; the input reads as it did. -/
def fnFirstBadSpec : ChangeSpec := { name := "fnFirstBad", fn := fun _ => fun
  | [d] => { results := [.lit (.bool true)], args := [d] }
  | _ => none }
def fnFirstBadRow : OpenClaim := { program := "ytkcgejbnhpccdaagreat", sum := "ec57010165fc5790465aae1612eae27cd05e4b65dab2bd6e669c66aaaf74d46f", func := "loop.example/g00457/laws.FnFirstBad", spec := "fnFirstBad", unfollowed := true, recurses := true, apart := false }
def FnFirstBadSaid : Prop := fnFirstBadRow.holds Tryz.pinned (OpenSpec.ofChange fnFirstBadSpec)

/-- ITS FALSE NEIGHBOUR: 'it returns false'. Refute it at one input. -/
def fnFirstBadWrong : ChangeSpec := { name := "fnFirstBad", fn := fun _ => fun
  | [d] => { results := [.lit (.bool false)], args := [d] }
  | _ => none }
def FnFirstBadWrongFalsely : Prop := fnFirstBadRow.holds Tryz.pinned (OpenSpec.ofChange fnFirstBadWrong)

/-- 'laws.FnLinear': WHATEVER THE INPUT: true; the input reads as it did. -/
def fnLinearSpec : ChangeSpec := { name := "fnLinear", fn := fun _ => fun
  | [d] => { results := [.lit (.bool true)], args := [d] }
  | _ => none }
def fnLinearRow : OpenClaim := { program := "ytkcgejbnhpccdaagreat", sum := "ec57010165fc5790465aae1612eae27cd05e4b65dab2bd6e669c66aaaf74d46f", func := "loop.example/g00457/laws.FnLinear", spec := "fnLinear", unfollowed := true, recurses := true, apart := false }
def FnLinearSaid : Prop := fnLinearRow.holds Tryz.pinned (OpenSpec.ofChange fnLinearSpec)

/-- ITS FALSE NEIGHBOUR: 'it returns false'. Refute it at one input. -/
def fnLinearWrong : ChangeSpec := { name := "fnLinear", fn := fun _ => fun
  | [d] => { results := [.lit (.bool false)], args := [d] }
  | _ => none }
def FnLinearWrongFalsely : Prop := fnLinearRow.holds Tryz.pinned (OpenSpec.ofChange fnLinearWrong)

/-- 'laws.FnExactInvoked': WHATEVER THE INPUT: true; the input reads as it did. -/
def fnExactInvokedSpec : ChangeSpec := { name := "fnExactInvoked", fn := fun _ => fun
  | [d1, d2, d3, d4, d5] => { results := [.lit (.bool true)], args := [d1, d2, d3, d4, d5] }
  | _ => none }
def fnExactInvokedRow : OpenClaim := { program := "ytkcgejbnhpccdaagreat", sum := "ec57010165fc5790465aae1612eae27cd05e4b65dab2bd6e669c66aaaf74d46f", func := "loop.example/g00457/laws.FnExactInvoked", spec := "fnExactInvoked", unfollowed := true, recurses := true, apart := false }
def FnExactInvokedSaid : Prop := fnExactInvokedRow.holds Tryz.pinned (OpenSpec.ofChange fnExactInvokedSpec)

/-- ITS FALSE NEIGHBOUR: 'it returns false'. Refute it at one input. -/
def fnExactInvokedWrong : ChangeSpec := { name := "fnExactInvoked", fn := fun _ => fun
  | [d1, d2, d3, d4, d5] => { results := [.lit (.bool false)], args := [d1, d2, d3, d4, d5] }
  | _ => none }
def FnExactInvokedWrongFalsely : Prop := fnExactInvokedRow.holds Tryz.pinned (OpenSpec.ofChange fnExactInvokedWrong)

/-- 'laws.FnExactHolds': WHATEVER THE INPUT: true; the input reads as it did. -/
def fnExactHoldsSpec : ChangeSpec := { name := "fnExactHolds", fn := fun _ => fun
  | [d1, d2] => { results := [.lit (.bool true)], args := [d1, d2] }
  | _ => none }
def fnExactHoldsRow : OpenClaim := { program := "ytkcgejbnhpccdaagreat", sum := "ec57010165fc5790465aae1612eae27cd05e4b65dab2bd6e669c66aaaf74d46f", func := "loop.example/g00457/laws.FnExactHolds", spec := "fnExactHolds", unfollowed := true, recurses := true, apart := false }
def FnExactHoldsSaid : Prop := fnExactHoldsRow.holds Tryz.pinned (OpenSpec.ofChange fnExactHoldsSpec)

/-- ITS FALSE NEIGHBOUR: 'it returns false'. Refute it at one input. -/
def fnExactHoldsWrong : ChangeSpec := { name := "fnExactHolds", fn := fun _ => fun
  | [d1, d2] => { results := [.lit (.bool false)], args := [d1, d2] }
  | _ => none }
def FnExactHoldsWrongFalsely : Prop := fnExactHoldsRow.holds Tryz.pinned (OpenSpec.ofChange fnExactHoldsWrong)

/-- 'laws.FnExactFirstBad': WHATEVER THE INPUT: true; the input reads as it did. -/
def fnExactFirstBadSpec : ChangeSpec := { name := "fnExactFirstBad", fn := fun _ => fun
  | [d1, d2] => { results := [.lit (.bool true)], args := [d1, d2] }
  | _ => none }
def fnExactFirstBadRow : OpenClaim := { program := "ytkcgejbnhpccdaagreat", sum := "ec57010165fc5790465aae1612eae27cd05e4b65dab2bd6e669c66aaaf74d46f", func := "loop.example/g00457/laws.FnExactFirstBad", spec := "fnExactFirstBad", unfollowed := true, recurses := true, apart := false }
def FnExactFirstBadSaid : Prop := fnExactFirstBadRow.holds Tryz.pinned (OpenSpec.ofChange fnExactFirstBadSpec)

/-- ITS FALSE NEIGHBOUR: 'it returns false'. Refute it at one input. -/
def fnExactFirstBadWrong : ChangeSpec := { name := "fnExactFirstBad", fn := fun _ => fun
  | [d1, d2] => { results := [.lit (.bool false)], args := [d1, d2] }
  | _ => none }
def FnExactFirstBadWrongFalsely : Prop := fnExactFirstBadRow.holds Tryz.pinned (OpenSpec.ofChange fnExactFirstBadWrong)

/- THE SECOND FORM. 'bulk': how many values and letters a reading holds, each counted each time it is reached (what is shared counts as often as it is met; a slice's spare places count too). A statement '..UptoSaid' is the law's where the arguments, and the package variables that the reading takes, are together of bulk at most 1048576: NARROWER than '..Said'. Prove '..Said' where nothing that the law and all that it calls make is longer than what came in: it says more and counts as full. Else prove '..UptoSaid'. A law counts once. -/
mutual
def uptoBulk {H : Type} : DataW H → Nat
  | .lit (.string bytes) => bytes.length + 1
  | .lit _ => 1
  | .nil => 1
  | .ptr d => uptoBulk d + 1
  | .slice elems spare => uptoBulkAll elems + uptoBulkAll spare + 1
  | .agg parts => uptoBulkAll parts + 1
  | .iface _ d => uptoBulk d + 1
  | .map entries => uptoBulkEntries entries + 1
  | .held _ => 1
def uptoBulkAll {H : Type} : List (DataW H) → Nat
  | [] => 0
  | d :: r => uptoBulk d + uptoBulkAll r
def uptoBulkEntries {H : Type} : List (Lit × DataW H) → Nat
  | [] => 0
  | x :: r => uptoBulkEntry x + uptoBulkEntries r
def uptoBulkEntry {H : Type} : Lit × DataW H → Nat
  | (.string bytes, d) => bytes.length + uptoBulk d + 1
  | (_, d) => uptoBulk d + 1
 end
def uptoSmall : (H : Type) → List (DataW H) → Bool := fun _ ds => decide (uptoBulkAll ds ≤ 1048576)
def OpenSpec.upto (s : _root_.Go.ChangeSpec) : _root_.Go.OpenSpec := { _root_.Go.OpenSpec.ofChange s with cond := some uptoSmall }

/-- 'laws.FnMemory', WHERE WHAT IT READS IS OF BULK AT MOST 1048576: true; the input reads as it did. -/
def fnMemoryUptoRow : OpenClaim := { program := "ytkcgejbnhpccdaagreat", sum := "ec57010165fc5790465aae1612eae27cd05e4b65dab2bd6e669c66aaaf74d46f", func := "loop.example/g00457/laws.FnMemory", spec := "fnMemory", unfollowed := true, recurses := true, apart := false, narrowed := true }
def FnMemoryUptoSaid : Prop := fnMemoryUptoRow.holds Tryz.pinned (OpenSpec.upto fnMemorySpec)

/-- 'laws.FnCalls', WHERE WHAT IT READS IS OF BULK AT MOST 1048576: true; the input reads as it did. -/
def fnCallsUptoRow : OpenClaim := { program := "ytkcgejbnhpccdaagreat", sum := "ec57010165fc5790465aae1612eae27cd05e4b65dab2bd6e669c66aaaf74d46f", func := "loop.example/g00457/laws.FnCalls", spec := "fnCalls", unfollowed := true, recurses := true, apart := false, narrowed := true }
def FnCallsUptoSaid : Prop := fnCallsUptoRow.holds Tryz.pinned (OpenSpec.upto fnCallsSpec)

/-- 'laws.FnFuel', WHERE WHAT IT READS IS OF BULK AT MOST 1048576: true; the input reads as it did. -/
def fnFuelUptoRow : OpenClaim := { program := "ytkcgejbnhpccdaagreat", sum := "ec57010165fc5790465aae1612eae27cd05e4b65dab2bd6e669c66aaaf74d46f", func := "loop.example/g00457/laws.FnFuel", spec := "fnFuel", unfollowed := true, recurses := true, apart := false, narrowed := true }
def FnFuelUptoSaid : Prop := fnFuelUptoRow.holds Tryz.pinned (OpenSpec.upto fnFuelSpec)

/-- 'laws.FnInvoked', WHERE WHAT IT READS IS OF BULK AT MOST 1048576: true; the input reads as it did. -/
def fnInvokedUptoRow : OpenClaim := { program := "ytkcgejbnhpccdaagreat", sum := "ec57010165fc5790465aae1612eae27cd05e4b65dab2bd6e669c66aaaf74d46f", func := "loop.example/g00457/laws.FnInvoked", spec := "fnInvoked", unfollowed := true, recurses := true, apart := false, narrowed := true }
def FnInvokedUptoSaid : Prop := fnInvokedUptoRow.holds Tryz.pinned (OpenSpec.upto fnInvokedSpec)

/-- 'laws.FnHolds', WHERE WHAT IT READS IS OF BULK AT MOST 1048576: true; the input reads as it did. -/
def fnHoldsUptoRow : OpenClaim := { program := "ytkcgejbnhpccdaagreat", sum := "ec57010165fc5790465aae1612eae27cd05e4b65dab2bd6e669c66aaaf74d46f", func := "loop.example/g00457/laws.FnHolds", spec := "fnHolds", unfollowed := true, recurses := true, apart := false, narrowed := true }
def FnHoldsUptoSaid : Prop := fnHoldsUptoRow.holds Tryz.pinned (OpenSpec.upto fnHoldsSpec)

/-- 'laws.FnFirstBad', WHERE WHAT IT READS IS OF BULK AT MOST 1048576: true; the input reads as it did. -/
def fnFirstBadUptoRow : OpenClaim := { program := "ytkcgejbnhpccdaagreat", sum := "ec57010165fc5790465aae1612eae27cd05e4b65dab2bd6e669c66aaaf74d46f", func := "loop.example/g00457/laws.FnFirstBad", spec := "fnFirstBad", unfollowed := true, recurses := true, apart := false, narrowed := true }
def FnFirstBadUptoSaid : Prop := fnFirstBadUptoRow.holds Tryz.pinned (OpenSpec.upto fnFirstBadSpec)

/-- 'laws.FnLinear', WHERE WHAT IT READS IS OF BULK AT MOST 1048576: true; the input reads as it did. -/
def fnLinearUptoRow : OpenClaim := { program := "ytkcgejbnhpccdaagreat", sum := "ec57010165fc5790465aae1612eae27cd05e4b65dab2bd6e669c66aaaf74d46f", func := "loop.example/g00457/laws.FnLinear", spec := "fnLinear", unfollowed := true, recurses := true, apart := false, narrowed := true }
def FnLinearUptoSaid : Prop := fnLinearUptoRow.holds Tryz.pinned (OpenSpec.upto fnLinearSpec)

/-- 'laws.FnExactInvoked', WHERE WHAT IT READS IS OF BULK AT MOST 1048576: true; the input reads as it did. -/
def fnExactInvokedUptoRow : OpenClaim := { program := "ytkcgejbnhpccdaagreat", sum := "ec57010165fc5790465aae1612eae27cd05e4b65dab2bd6e669c66aaaf74d46f", func := "loop.example/g00457/laws.FnExactInvoked", spec := "fnExactInvoked", unfollowed := true, recurses := true, apart := false, narrowed := true }
def FnExactInvokedUptoSaid : Prop := fnExactInvokedUptoRow.holds Tryz.pinned (OpenSpec.upto fnExactInvokedSpec)

/-- 'laws.FnExactHolds', WHERE WHAT IT READS IS OF BULK AT MOST 1048576: true; the input reads as it did. -/
def fnExactHoldsUptoRow : OpenClaim := { program := "ytkcgejbnhpccdaagreat", sum := "ec57010165fc5790465aae1612eae27cd05e4b65dab2bd6e669c66aaaf74d46f", func := "loop.example/g00457/laws.FnExactHolds", spec := "fnExactHolds", unfollowed := true, recurses := true, apart := false, narrowed := true }
def FnExactHoldsUptoSaid : Prop := fnExactHoldsUptoRow.holds Tryz.pinned (OpenSpec.upto fnExactHoldsSpec)

/-- 'laws.FnExactFirstBad', WHERE WHAT IT READS IS OF BULK AT MOST 1048576: true; the input reads as it did. -/
def fnExactFirstBadUptoRow : OpenClaim := { program := "ytkcgejbnhpccdaagreat", sum := "ec57010165fc5790465aae1612eae27cd05e4b65dab2bd6e669c66aaaf74d46f", func := "loop.example/g00457/laws.FnExactFirstBad", spec := "fnExactFirstBad", unfollowed := true, recurses := true, apart := false, narrowed := true }
def FnExactFirstBadUptoSaid : Prop := fnExactFirstBadUptoRow.holds Tryz.pinned (OpenSpec.upto fnExactFirstBadSpec)

end Rows
end Go.Proofs.YtkcgejbnhpccdaaGreat
