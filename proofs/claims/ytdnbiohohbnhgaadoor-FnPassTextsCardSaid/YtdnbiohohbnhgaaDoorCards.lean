/-
  DERIVED. GIVEN WITH THE SEED: THE CARDS: each row of YtdnbiohohbnhgaaDoorRows.lean that lists a variable, with what it lists TIED to the program's text (the seventh form; the later family's looks); each row that meets fmt, with fmt's text TOLD by the authors' own Lean function (tested against real Go, not proved from fmt's source: count such statements apart). THE CARD IS WHAT COUNTS. Prove the row's statement (the work); the ties are given (YtdnbiohohbnhgaaDoorTie.lean); close each card by the builder's one call (the guide's Derived/Test/ToyasCard.lean, 'card_holds'). Laid BY PROGRAM, IN A SANDBOX (cutbox-door.mjs). By AI agents, Wed Nov 11 2026. No macro, syntax, notation, axiom, sorry.
-/
import Derived.Test.YtdnbiohohbnhgaaDoorRows
import GoSem.ClaimSeven
namespace Go.Proofs.YtdnbiohohbnhgaaDoor
namespace Rows

/-- THE TIED CARD OF 'laws.FnExactPassesOf'. -/
def fnExactPassesOfCard : Claim7 := { stood := { row := fnExactPassesOfRow, standIns := [], harness := (true, "a6f2b99d3b276d46047ae49a8b9d8d384e70fba24930ad028c4a597bbc37ec05"), looks := false }, kinds := [], alts := [], laidByText := true, laidKinds := [.data, .pinned], laidTests := true, laidLooks := .later }
def FnExactPassesOfCardSaid : Prop := Claim7.holds Tryd.pinned (.plain (OpenSpec.ofChange fnExactPassesOfSpec)) fnExactPassesOfCard

/-- THE TIED CARD OF 'laws.FnExactPassText'. -/
def fnExactPassTextCard : Claim7 := { stood := { row := fnExactPassTextRow, standIns := [], harness := (true, "a6f2b99d3b276d46047ae49a8b9d8d384e70fba24930ad028c4a597bbc37ec05"), looks := false }, kinds := [], alts := [], laidByText := true, laidKinds := [.data, .pinned], laidTests := true, laidLooks := .later }
def FnExactPassTextCardSaid : Prop := Claim7.holds Tryd.pinned (.plain (OpenSpec.ofChange fnExactPassTextSpec)) fnExactPassTextCard

/-- THE TIED CARD OF 'laws.FnPassTexts'. -/
def fnPassTextsCard : Claim7 := { stood := { row := fnPassTextsRow, standIns := [], harness := (true, "a6f2b99d3b276d46047ae49a8b9d8d384e70fba24930ad028c4a597bbc37ec05"), looks := false }, kinds := [], alts := [], laidByText := true, laidKinds := [.data, .pinned], laidTests := true, laidLooks := .later }
def FnPassTextsCardSaid : Prop := Claim7.holds Tryd.pinned (.plain (OpenSpec.ofChange fnPassTextsSpec)) fnPassTextsCard

/-- THE SECOND FORM's CARD OF 'laws.FnExactPassesOf'. -/
def fnExactPassesOfUptoCard : Claim7 := { stood := { row := fnExactPassesOfUptoRow, standIns := [], harness := (true, "a6f2b99d3b276d46047ae49a8b9d8d384e70fba24930ad028c4a597bbc37ec05"), looks := false }, kinds := [], alts := [], laidByText := true, laidKinds := [.data, .pinned], laidTests := true, laidLooks := .later }
def FnExactPassesOfUptoCardSaid : Prop := Claim7.holds Tryd.pinned (.plain (OpenSpec.upto fnExactPassesOfSpec)) fnExactPassesOfUptoCard

/-- THE SECOND FORM's CARD OF 'laws.FnExactPassText'. -/
def fnExactPassTextUptoCard : Claim7 := { stood := { row := fnExactPassTextUptoRow, standIns := [], harness := (true, "a6f2b99d3b276d46047ae49a8b9d8d384e70fba24930ad028c4a597bbc37ec05"), looks := false }, kinds := [], alts := [], laidByText := true, laidKinds := [.data, .pinned], laidTests := true, laidLooks := .later }
def FnExactPassTextUptoCardSaid : Prop := Claim7.holds Tryd.pinned (.plain (OpenSpec.upto fnExactPassTextSpec)) fnExactPassTextUptoCard

/-- THE SECOND FORM's CARD OF 'laws.FnPassTexts'. -/
def fnPassTextsUptoCard : Claim7 := { stood := { row := fnPassTextsUptoRow, standIns := [], harness := (true, "a6f2b99d3b276d46047ae49a8b9d8d384e70fba24930ad028c4a597bbc37ec05"), looks := false }, kinds := [], alts := [], laidByText := true, laidKinds := [.data, .pinned], laidTests := true, laidLooks := .later }
def FnPassTextsUptoCardSaid : Prop := Claim7.holds Tryd.pinned (.plain (OpenSpec.upto fnPassTextsSpec)) fnPassTextsUptoCard
end Rows
end Go.Proofs.YtdnbiohohbnhgaaDoor
