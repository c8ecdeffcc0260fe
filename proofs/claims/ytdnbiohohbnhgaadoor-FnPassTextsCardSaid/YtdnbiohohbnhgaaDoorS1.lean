/- Contracts of the reference's leaf functions. No conditions. -/
import Derived.Test.YtdnbiohohbnhgaaDoorC1
set_option linter.unusedSimpArgs false
set_option linter.unusedVariables false
namespace Go.Proofs.YtdnbiohohbnhgaaDoor
open Go.RowKit
theorem s_l1In (n lo hi : Int) (w : World) : Calls Tryd.prog 31 #[.int .i64 n, .int .i64 lo, .int .i64 hi] w (Same (.bool (inR n lo hi)) w) := by
  unfold inR
  by_cases h : lo ≤ n
  all_goals
    go_enter Tryd.func31, Tryd.ntmps31
    go_wp2
    go_ret
    exact ⟨by first | (simp [h]; done) | (have h' : ¬ lo ≤ n := (by omega); simp [h']), rfl⟩
theorem pow_bd (n : Int) (h : widthOk n = true) : (2 : Int) ≤ 2 ^ n.toNat ∧ (2 : Int) ^ n.toNat ≤ 4294967296 := by
  simp only [widthOk, Bool.or_eq_true, beq_iff_eq] at h
  rcases h with ((rfl | rfl) | rfl) | rfl <;> decide
end Go.Proofs.YtdnbiohohbnhgaaDoor
