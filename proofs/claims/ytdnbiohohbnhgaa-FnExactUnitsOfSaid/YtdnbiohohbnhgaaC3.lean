/- The contract of OperandsOf. No conditions. -/
import Derived.Test.YtdnbiohohbnhgaaC2
set_option linter.unusedSimpArgs false
set_option linter.unusedVariables false
namespace Go.Proofs.Ytdnbiohohbnhgaa
open Go.RowKit
/-! an instruction as it is handed over -/
theorem opsOf_len (i : XInst) (h : i.args.length ≤ 1048576) : (opsOf i).length ≤ 1048576 := by
  rcases opsOf_le i with h' | ⟨h', _⟩
  · omega
  · rw [h']; exact h
theorem retI_made {w W : World} (hb : Below w.heap.size w W) (xs : List Int) (n g : Nat) (hn : n = xs.length) (hg : g = W.heap.size) (hl : n ≤ 1048576) : RetI xs w (.returned (.slice (some ⟨g, 0, none⟩) n n)) (W.alloc (.cells (xs.map (Value.int .i64)).toArray 2)) := by
  subst hn hg
  refine ⟨_, rfl, ⟨by simp, .inr ⟨W.heap.size, xs.length, (xs.map (Value.int .i64)).toArray, rfl, hb.size, ?_, Nat.le_refl _, by unfold maxLen; omega, by simp, ?_⟩⟩, hb.al hb.size _⟩
  · show (W.heap.push _)[W.heap.size]? = _
    simp
  · exact List.take_of_length_le (by simp)
theorem retI_nil {w W : World} (hb : Below w.heap.size w W) : RetI [] w (.returned (.slice none 0 0)) W := ⟨_, rfl, ownI_nil _ _, hb⟩
theorem RetI.later {w w1 : World} {xs : List Int} {e : Ending} {w' : World} (hb : Below w.heap.size w w1) (h : RetI xs w1 e w') : RetI xs w e w' := by
  obtain ⟨v, he, ⟨hl, ho⟩, hb'⟩ := h
  refine ⟨v, he, ⟨hl, ?_⟩, hb.then hb'⟩
  rcases ho with ho | ⟨g, cap, cur, hv, hg, r⟩
  · exact .inl ho
  · exact .inr ⟨g, cap, cur, hv, Nat.le_trans hb.size hg, r⟩
abbrev instV (i : XInst) (v : Value) : Value := .agg #[.int .i64 i.op, .int .i64 i.w, .int .i64 i.a, .int .i64 i.b, .int .i64 i.c, .int .i64 i.imm, v]
theorem bneT {a b : Int} (h : ¬ a = b) : (a != b) = true := by simpa using h
theorem beqF {a b : Int} (h : ¬ a = b) : (a == b) = false := by simpa using h
set_option maxHeartbeats 1000000 in
theorem c_OperandsOf (i : XInst) (v : Value) (w : World) (hv : RI lm w v i.args) : Calls Try.prog 118 #[instV i v] w (RetI (opsOf i) w) := by
  obtain ⟨op, wd, a, b, c, imm, args⟩ := i
  simp only [instV] at hv ⊢
  have hv0 := Hd.mk hv
  have hb := c_isBinary op
  have hc := c_isCast op
  have hbl := fun o => (Below.refl w.heap.size w).al (Nat.le_refl _) o
  clear hv
  by_cases h1 : bin op = true
  · rw [h1] at hb
    rw [show opsOf ⟨op, wd, a, b, c, imm, args⟩ = [a, b] by simp [opsOf, h1]]
    clear h1
    go_enter Try.func118, Try.ntmps118
    go_wp2_with (go_at_call 130; refine (hb _).mono ?_; rintro e w' ⟨rfl, rfl⟩)
    go_ret
    exact retI_made (hbl _) [a, b] 2 _ rfl (by simp) (by omega)
  rw [Bool.not_eq_true] at h1
  rw [h1] at hb
  by_cases h2 : op = 24
  · subst h2
    rw [show opsOf ⟨24, wd, a, b, c, imm, args⟩ = [a, b] by simp [opsOf]]
    go_enter Try.func118, Try.ntmps118
    go_wp2_with (go_at_call 130; refine (hb _).mono ?_; rintro e w' ⟨rfl, rfl⟩)
    go_ret
    exact retI_made (hbl _) [a, b] 2 _ rfl (by simp) (by omega)
  by_cases h3 : cst op = true
  · rw [h3] at hc
    rw [show opsOf ⟨op, wd, a, b, c, imm, args⟩ = [a] by simp [opsOf, h1, h2, h3]]
    have b2 := beqF h2
    clear h1 h2 h3
    go_enter Try.func118, Try.ntmps118
    go_wp2_with (first | (go_at_call 130; refine (hb _).mono ?_; rintro e w' ⟨rfl, rfl⟩) | (go_at_call 107; refine (hc _).mono ?_; rintro e w' ⟨rfl, rfl⟩))
    go_ret
    exact retI_made (hbl _) [a] 1 _ rfl (by simp) (by omega)
  rw [Bool.not_eq_true] at h3
  rw [h3] at hc
  by_cases h4 : op = 23 ∨ op = 25 ∨ op = 27
  · rcases h4 with rfl | rfl | rfl
    all_goals
      rw [show ∀ o, o = 23 ∨ o = 25 ∨ o = 27 → opsOf ⟨o, wd, a, b, c, imm, args⟩ = [a] from fun o ho => by rcases ho with rfl | rfl | rfl <;> simp [opsOf, bin, inR]]
      · clear h1 h2 h3
        go_enter Try.func118, Try.ntmps118
        go_wp2_with (first | (go_at_call 130; refine (hb _).mono ?_; rintro e w' ⟨rfl, rfl⟩) | (go_at_call 107; refine (hc _).mono ?_; rintro e w' ⟨rfl, rfl⟩))
        go_ret
        exact retI_made (hbl _) [a] 1 _ rfl (by simp) (by omega)
      · simp
  obtain ⟨h5, h6, h7⟩ : op ≠ 23 ∧ op ≠ 25 ∧ op ≠ 27 := by omega
  clear h4
  have b2 := beqF h2
  have b5 := beqF h5
  have b6 := beqF h6
  have b7 := beqF h7
  by_cases h8 : op = 22
  · subst h8
    rw [show opsOf ⟨22, wd, a, b, c, imm, args⟩ = [a, b, c] by simp [opsOf, bin, cst, inR]]
    clear h1 h2 h3 h5 h6 h7 b2 b5 b6 b7
    go_enter Try.func118, Try.ntmps118
    go_wp2_with (first | (go_at_call 130; refine (hb _).mono ?_; rintro e w' ⟨rfl, rfl⟩) | (go_at_call 107; refine (hc _).mono ?_; rintro e w' ⟨rfl, rfl⟩))
    go_ret
    exact retI_made (hbl _) [a, b, c] 3 _ rfl (by simp) (by omega)
  have b8 := beqF h8
  by_cases h9 : op = 26
  · subst h9
    rw [show opsOf ⟨26, wd, a, b, c, imm, args⟩ = args by simp [opsOf, bin, cst, inR]]
    clear h1 h2 h3 h5 h6 h7 b2 b5 b6 b7 b8 h8
    go_enter Try.func118, Try.ntmps118
    go_wp2_with (first | (go_at_call 130; refine (hb _).mono ?_; rintro e w' ⟨rfl, rfl⟩) | (go_at_call 107; refine (hc _).mono ?_; rintro e w' ⟨rfl, rfl⟩) | (go_at_call 134; refine (c_Clone _ _ _ (hv0.out.mv (hbl _))).mono ?_; rintro e w' hr; obtain ⟨v', rfl, ho, hb'⟩ := hr.later (hbl _)))
    go_ret
    exact ⟨_, rfl, ho, hb'⟩
  · have b9 := beqF h9
    rw [show opsOf ⟨op, wd, a, b, c, imm, args⟩ = [] by simp [opsOf, h1, h2, h3, h5, h6, h7, h8, h9]]
    clear h1 h2 h3 h5 h6 h7 h8 h9
    go_enter Try.func118, Try.ntmps118
    go_wp2_with (first | (go_at_call 130; refine (hb _).mono ?_; rintro e w' ⟨rfl, rfl⟩) | (go_at_call 107; refine (hc _).mono ?_; rintro e w' ⟨rfl, rfl⟩))
    go_ret
    exact retI_nil (hbl _)
end Go.Proofs.Ytdnbiohohbnhgaa
