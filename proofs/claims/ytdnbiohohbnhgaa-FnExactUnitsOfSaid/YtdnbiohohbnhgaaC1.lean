/- Contracts of the program's leaf functions. No conditions. -/
import Derived.Test.YtdnbiohohbnhgaaCX
set_option linter.unusedSimpArgs false
set_option linter.unusedVariables false
namespace Go.Proofs.Ytdnbiohohbnhgaa
open Go.RowKit
theorem c_within (n lo hi : Int) (w : World) : Calls Try.prog 42 #[.int .i64 n, .int .i64 lo, .int .i64 hi] w (Same (.bool (inR n lo hi)) w) := by
  unfold inR
  by_cases h : lo ≤ n
  all_goals
    go_enter Try.func42, Try.ntmps42
    go_wp2
    go_ret
    exact ⟨by first | (simp [h]; done) | (have h' : ¬ lo ≤ n := (by omega); simp [h']), rfl⟩
theorem c_WidthOk (n : Int) (w : World) : Calls Try.prog 69 #[.int .i64 n] w (Same (.bool (widthOk n)) w) := by
  go_enter Try.func69, Try.ntmps69
  go_wp2
  all_goals
    go_ret
    exact ⟨by simp [widthOk, *], rfl⟩
theorem c_isBinary (n : Int) (w : World) : Calls Try.prog 130 #[.int .i64 n] w (Same (.bool (bin n)) w) := by
  go_enter Try.func130, Try.ntmps130
  go_wp2_with (go_at_call 42; refine (c_within _ _ _ _).mono ?_; rintro e w' ⟨rfl, rfl⟩)
  go_ret
  exact ⟨rfl, rfl⟩
theorem c_isCast (n : Int) (w : World) : Calls Try.prog 107 #[.int .i64 n] w (Same (.bool (cst n)) w) := by
  go_enter Try.func107, Try.ntmps107
  go_wp2_with (go_at_call 42; refine (c_within _ _ _ _).mono ?_; rintro e w' ⟨rfl, rfl⟩)
  go_ret
  exact ⟨rfl, rfl⟩
theorem c_mask (n : Int) (w : World) (h : widthOk n = true) : Calls Try.prog 108 #[.int .i64 n] w (Same (.int .i64 (2 ^ n.toNat - 1)) w) := by
  simp only [widthOk, Bool.or_eq_true, beq_iff_eq] at h
  rcases h with ((rfl | rfl) | rfl) | rfl
  all_goals
    go_enter Try.func108, Try.ntmps108
    go_wp2
    go_ret
    exact ⟨rfl, rfl⟩
theorem c_isValue (n v : Int) (w : World) : Calls Try.prog 74 #[.int .i64 n, .int .i64 v] w (Same (.bool (isVal n v)) w) := by
  unfold isVal
  cases h : widthOk n
  all_goals
    have hh := Hd.mk h
    have hw := c_WidthOk n
    rw [h] at hw
    clear h
    go_enter Try.func74, Try.ntmps74
    go_wp2_with (first | (go_at_call 69; refine (hw _).mono ?_; rintro e w' ⟨rfl, rfl⟩) | (go_at_call 108; refine (c_mask _ _ hh.out).mono ?_; rintro e w' ⟨rfl, rfl⟩) | (go_at_call 42; refine (c_within _ _ _ _).mono ?_; rintro e w' ⟨rfl, rfl⟩))
    go_ret
    exact ⟨by simp, rfl⟩
theorem c_isInst1 (id ids : Int) (b : Nat) (w : World) (hc : w.cell? ⟨b, 0, none⟩ = some (.int .i64 ids)) (h : -9223372036854775807 ≤ ids) (h2 : ids ≤ 9223372036854775807) : Calls Try.prog 119 #[.int .i64 id, .pointer (some ⟨b, 0, none⟩)] w (Same (.bool (!isIdB ids id)) w) := by
  go_enter Try.func119, Try.ntmps119
  go_wp2_with (go_at_call 42; refine (c_within _ _ _ _).mono ?_; rintro e w' ⟨rfl, rfl⟩)
  go_ret
  exact ⟨rfl, rfl⟩
theorem c_isInst2 (n : Int) (w : World) : Calls Try.prog 120 #[.int .i64 n] w (Same (.bool (n != 0)) w) := by
  go_enter Try.func120, Try.ntmps120
  go_wp2
  go_ret
  exact ⟨rfl, rfl⟩
theorem c_isFunc1 (n : Int) (w : World) : Calls Try.prog 84 #[.int .i64 n] w (Same (.bool (!widthOk n)) w) := by
  go_enter Try.func84, Try.ntmps84
  go_wp2_with (go_at_call 69; refine (c_WidthOk _ _).mono ?_; rintro e w' ⟨rfl, rfl⟩)
  go_ret
  exact ⟨rfl, rfl⟩
end Go.Proofs.Ytdnbiohohbnhgaa
