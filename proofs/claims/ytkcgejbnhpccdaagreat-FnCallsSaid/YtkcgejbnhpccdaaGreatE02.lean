import Derived.Test.YtkcgejbnhpccdaaGreatJ06
import Derived.Test.YtkcgejbnhpccdaaGreatJ07
set_option linter.unusedSimpArgs false
set_option linter.unusedVariables false
namespace Go.Proofs.YtkcgejbnhpccdaaGreat
open Go.RowKit
/-- A byte. -/
def KB (_ : World) (x : Int) (cs : List Value) : Prop := cs = [.int .u8 x] ∧ 0 ≤ x ∧ x < 256
instance : KM KB := ⟨fun h _ => h⟩
theorem l_big (A : Option Addr) (n c : Nat) (w : World) (hn : (n : Int) ≤ 9223372036854775807) : Calls Tryz.prog 13 #[.slice A n c] w (Same (.bool (decide ((1048576 : Int) < n))) w) := by
  go_enter Tryz.func13, Tryz.ntmps13
  go_wp2
  go_ret
  exact ⟨rfl, rfl⟩
end Go.Proofs.YtkcgejbnhpccdaaGreat
set_option linter.unusedSimpArgs false
set_option linter.unusedVariables false
namespace Go.Proofs.YtkcgejbnhpccdaaGreat
open Go.RowKit Go.ChangeShapes Go.WideShapes
theorem u8_wf {q : Int} (h : (Lit.int .u8 q).wf = true) : 0 ≤ q ∧ q < 256 := by
  have e1 : IntKind.u8.min = 0 := by decide
  have e2 : IntKind.u8.max = 255 := by decide
  have h' : (decide (IntKind.u8.min ≤ q) && decide (q ≤ IntKind.u8.max)) = true := h
  rw [e1, e2, Bool.and_eq_true, decide_eq_true_eq, decide_eq_true_eq] at h'
  omega
theorem op_byte {H : Type} {enc : TypeId × Value → H} {W : World} : Op enc W 5 1 KB := fun n cs y h => by
  obtain ⟨q, rfl, _, hw⟩ := DataW.trod_int Tryz.underlying5 h
  obtain ⟨q1, q2⟩ := u8_wf hw
  exact ⟨q, ⟨rfl, q1, q2⟩, rfl⟩
theorem cells_byte : Tryz.prog.cellsOf 5 = 1 := by kernel_rfl
theorem op_bytes {H : Type} {enc : TypeId × Value → H} {W : World} {n : Nat} {cs : List Value} {y : DataW H × List MemPlace} (h : DataW.trod enc Tryz.prog W 0 (fun _ => true) true n 22 cs = some y) : ∃ v xs, cs = [v] ∧ Rd lw 1 KB W v xs := op_slice Tryz.underlying22 cells_byte (by omega) op_byte h
end Go.Proofs.YtkcgejbnhpccdaaGreat
