import Derived.Test.YtkcgejbnhpccdaaGreatT01
set_option linter.unusedSimpArgs false
set_option linter.unusedVariables false
namespace Go.Proofs.YtkcgejbnhpccdaaGreat
open Go.RowKit
set_option maxHeartbeats 1000000 in
theorem c_isInst (i : XInst) (v : Value) (ids funcs : Int) (w : World) (hv : RI lm w v i.args) (hi : 0 ≤ ids) (hi2 : ids ≤ 1048576) (hf : 0 ≤ funcs) (hf2 : funcs ≤ 1048576) :
    Calls Tryz.prog 171 #[instV i v, .int .i64 ids, .int .i64 funcs] w (Ret (.bool (instOk ids funcs i)) w) := by
  by_cases ho : i.op = 26 ∧ i.args.length ≤ 4
  · exact c_isInst26 i v ids funcs w hv hi hi2 hf hf2 ho.1 ho.2
  by_cases hq : i.op ≠ 26 ∧ inR i.op 1 27 = true ∧ i.args = []
  · exact c_isInstO i v ids funcs w hv hi hi2 hf hf2 hq.1 hq.2.1 hq.2.2
  have hpre : instPre i = false := by
    rw [Bool.eq_false_iff]
    intro h
    simp only [instPre, Bool.and_eq_true, Bool.or_eq_true, decide_eq_true_eq, List.isEmpty_iff, beq_iff_eq] at h
    obtain ⟨⟨h1, h2⟩, h3⟩ := h
    by_cases h4 : i.op = 26
    · exact ho ⟨h4, h2⟩
    · exact hq ⟨h4, h1, h3.resolve_right h4⟩
  rw [instOk_pre, hpre]
  simp only [Bool.false_and]
  have hin := c_within i.op 1 27
  obtain ⟨A, c, rfl, _, hl, hv0⟩ := hv.sm
  have hbl := fun o o' => ((Below.refl w.heap.size w).al (Nat.le_refl _) o).al (by simp) o'
  simp only [instPre] at hpre
  obtain ⟨op, wd, a, b, c0, imm, args⟩ := i
  simp only [instV] at *
  clear ho hq
  cases h0 : inR op 1 27 with
  | false =>
    rw [h0] at hin
    clear hpre
    go_enter Tryz.func171, Tryz.ntmps171
    go_wp2_with (go_at_call 62; refine (hin _).mono ?_; rintro e w' ⟨rfl, rfl⟩)
    go_ret
    exact ⟨rfl, hbl _ _⟩
  | true =>
    rw [h0] at hin hpre
    by_cases h1 : 4 < args.length
    · clear hpre
      go_enter Tryz.func171, Tryz.ntmps171
      go_wp2_with (go_at_call 62; refine (hin _).mono ?_; rintro e w' ⟨rfl, rfl⟩)
      go_ret
      exact ⟨rfl, hbl _ _⟩
    · have h3 : 0 < args.length ∧ op ≠ 26 := by
        have h4 : args.length ≤ 4 := by omega
        simp [h4] at hpre
        exact ⟨by have := List.length_pos_iff.2 hpre.1; omega, hpre.2⟩
      clear hpre
      obtain ⟨h3, h4⟩ := h3
      have b4 := bneT h4
      have b5 : decide (4 < (args.length : Int)) = false := by simp; omega
      go_enter Tryz.func171, Tryz.ntmps171
      go_wp2_with (go_at_call 62; refine (hin _).mono ?_; rintro e w' ⟨rfl, rfl⟩)
      go_ret
      exact ⟨rfl, hbl _ _⟩
abbrev termV (t : XTerm) : Value := .agg #[.int .i64 t.kind, .int .i64 t.a, .int .i64 t.x, .int .i64 t.y]
theorem c_isTerm1 (n : Int) (b : Nat) (A : Option Addr) (m c : Nat) (w : World) (hc : w.cell? ⟨b, 2, none⟩ = some (.slice A m c)) (hm : m ≤ 1048576) : Calls Tryz.prog 210 #[.int .i64 n, .pointer (some ⟨b, 0, none⟩)] w (Same (.bool (isIdB m n)) w) := by
  go_enter Tryz.func210, Tryz.ntmps210
  go_wp2_with (go_at_call 62; refine (c_within _ _ _ _).mono ?_; rintro e w' ⟨rfl, rfl⟩)
  go_ret
  exact ⟨rfl, rfl⟩
set_option maxHeartbeats 2000000 in
theorem c_isTerm (vp : Value) (r : Int) (A : Option Addr) (m c : Nat) (t : XTerm) (ids : Int) (w : World) (hm : m ≤ 1048576) (hi : 0 ≤ ids) (hi2 : ids ≤ 1048576) :
    Calls Tryz.prog 172 #[.agg #[vp, .int .i64 r, .slice A m c], termV t, .int .i64 ids] w (Ret (.bool (termOk ids m t)) w) := by
  have hin := c_within t.a 0 (ids - 1)
  have et := enters_of Tryz.func210 (by kernel_rfl) rfl
  have hT1 := fun n W => c_isTerm1 n w.heap.size A m c W
  have hbl := fun o o' => ((Below.refl w.heap.size w).al (Nat.le_refl _) o).al (by simp) o'
  obtain ⟨k, a, x, y⟩ := t
  simp only [termV] at *
  have hid : isIdB ids a = inR a 0 (ids - 1) := rfl
  by_cases h1 : k = 1
  · subst h1
    rw [show termOk ids m ⟨1, a, x, y⟩ = (isIdB ids a && x == 0 && y == 0) from rfl, hid]
    generalize inR a 0 (ids - 1) = q at *
    clear hid hT1
    cases q
    all_goals by_cases hx : x = 0
    all_goals by_cases hy : y = 0
    all_goals
      go_enter Tryz.func172, Tryz.ntmps172
      go_wp2_with (go_at_call 62; refine (hin _).mono ?_; rintro e w' ⟨rfl, rfl⟩)
      go_ret
      exact ⟨by simp [hx, hy], hbl _ _⟩
  have hx := hT1 x
  have hy := hT1 y
  clear hT1
  by_cases h2 : k = 2
  · subst h2
    rw [show termOk ids m ⟨2, a, x, y⟩ = (a == 0 && isIdB m x && y == 0) from rfl]
    generalize isIdB m x = q at *
    clear hid hy hin
    cases q
    all_goals by_cases hA : a = 0
    all_goals by_cases hY : y = 0
    all_goals
      go_enter Tryz.func172, Tryz.ntmps172
      go_wp2_with (go_at_call 210; refine (hx _ (by simp) hm).mono ?_; rintro e w' ⟨rfl, rfl⟩)
      go_ret
      exact ⟨by simp [hA, hY], hbl _ _⟩
  by_cases h3 : k = 3
  · subst h3
    rw [show termOk ids m ⟨3, a, x, y⟩ = (isIdB ids a && isIdB m x && isIdB m y && x != y) from rfl, hid]
    generalize inR a 0 (ids - 1) = q at *
    clear hid
    cases q with
    | false =>
      go_enter Tryz.func172, Tryz.ntmps172
      go_wp2_with (go_at_call 62; refine (hin _).mono ?_; rintro e w' ⟨rfl, rfl⟩)
      go_ret
      exact ⟨by simp, hbl _ _⟩
    | true =>
      generalize hq1 : isIdB m x = q1 at *
      clear hq1
      cases q1 with
      | false =>
        go_enter Tryz.func172, Tryz.ntmps172
        go_wp2_with (first | (go_at_call 62; refine (hin _).mono ?_; rintro e w' ⟨rfl, rfl⟩) | (go_at_call 210; refine (hx _ (by simp) hm).mono ?_; rintro e w' ⟨rfl, rfl⟩))
        go_ret
        exact ⟨by simp, hbl _ _⟩
      | true =>
        generalize hq2 : isIdB m y = q2 at *
        clear hq2
        have go : ∀ g : Int, g = x → True := fun _ _ => trivial
        clear go
        go_enter Tryz.func172, Tryz.ntmps172
        go_wp2_with fail
        refine (hin _).mono ?_
        rintro e w' ⟨rfl, rfl⟩
        go_wp2_with fail
        refine (hx _ (by simp) hm).mono ?_
        rintro e w' ⟨rfl, rfl⟩
        go_wp2_with fail
        refine (hy _ (by simp) hm).mono ?_
        rintro e w' ⟨rfl, rfl⟩
        cases q2
        all_goals
          go_wp2
          go_ret
          exact ⟨by simp, hbl _ _⟩
  by_cases h4 : k = 4
  · subst h4
    rw [show termOk ids m ⟨4, a, x, y⟩ = (a == 0 && x == 0 && y == 0) from rfl]
    clear hx hy hin hid
    by_cases hA : a = 0
    all_goals by_cases hX : x = 0
    all_goals by_cases hY : y = 0
    all_goals
      go_enter Tryz.func172, Tryz.ntmps172
      go_wp2
      go_ret
      exact ⟨by simp [hA, hX, hY], hbl _ _⟩
  · rw [show termOk ids m ⟨k, a, x, y⟩ = false by simp [termOk, h1, h2, h3, h4]]
    go_enter Tryz.func172, Tryz.ntmps172
    go_wp2
    go_ret
    exact ⟨by simp, hbl _ _⟩
end Go.Proofs.YtkcgejbnhpccdaaGreat
