import Derived.Test.YtkcgejbnhpccdaaGreatJ09
set_option linter.unusedSimpArgs false
set_option linter.unusedVariables false
namespace Go.Proofs.YtkcgejbnhpccdaaGreat
open Go.RowKit
/-! ### what a function in its form is -/
theorem fn_block {f : XFunc} {n : Int} (h : funcOk f n = true) (b : XBlock) (hb : b ∈ f.blocks) : (∀ p ∈ b.phis, phiOk (countOf f) p = true) ∧ (∀ i ∈ b.insts, instOk (countOf f) n i = true) ∧ termOk (countOf f) f.blocks.length b.term = true := by
  have h1 := (func_blocks h).2.2.2 b hb
  unfold blockOk at h1
  simp only [Bool.and_eq_true, List.all_eq_true] at h1
  exact ⟨h1.1.1, h1.1.2, h1.2⟩
theorem fn_par {f : XFunc} {n : Int} (h : funcOk f n = true) : ∀ w ∈ f.params, widthOk w = true := by
  unfold funcOk at h
  simp only [Bool.and_eq_true, List.all_eq_true] at h
  exact h.1.1.2
theorem width_nn {w : Int} (h : widthOk w = true) : 1 ≤ w ∧ w ≤ 32 := by
  unfold widthOk at h
  simp at h
  omega
theorem isIdB_iff (n id : Int) : isIdB n id = true ↔ 0 ≤ id ∧ id < n := by
  unfold isIdB inR
  simp
  omega
theorem inst_parts {ids n : Int} {i : XInst} (h : instOk ids n i = true) : (1 ≤ i.op ∧ i.op ≤ 27) ∧ (∀ id ∈ opsOf i, 0 ≤ id ∧ id < ids) ∧ (∀ x ∈ [i.a, i.b, i.c].drop (ownN i), x = 0) ∧ wFits i = true := by
  unfold instOk at h
  simp only [Bool.and_eq_true, List.all_eq_true] at h
  obtain ⟨⟨⟨⟨⟨⟨h1, -⟩, -⟩, h2⟩, h3⟩, h4⟩, -⟩ := h
  refine ⟨by simpa [inR] using h1, fun id hid => (isIdB_iff _ _).1 (h2 id hid), fun x hx => by simpa using h3 x hx, h4⟩
/-- The operands of an instruction: in range, or 0 where they are not asked. -/
theorem inst_abc {ids n : Int} {i : XInst} (h : instOk ids n i = true) (h0 : 0 ≤ ids) : (0 ≤ i.a ∧ i.a ≤ ids) ∧ (0 ≤ i.b ∧ i.b ≤ ids) ∧ (0 ≤ i.c ∧ i.c ≤ ids) := by
  obtain ⟨-, h1, h2, -⟩ := inst_parts h
  have key : ∀ x, x ∈ opsOf i ∨ x = 0 → 0 ≤ x ∧ x ≤ ids := by
    rintro x (hx | rfl)
    · have := h1 x hx; omega
    · omega
  have hh : (i.a ∈ opsOf i ∨ i.a = 0) ∧ (i.b ∈ opsOf i ∨ i.b = 0) ∧ (i.c ∈ opsOf i ∨ i.c = 0) := by
    unfold ownN at h2
    by_cases h26 : i.op = 26
    · rw [if_pos (by simpa using h26)] at h2
      exact ⟨.inr (h2 _ (by simp)), .inr (h2 _ (by simp)), .inr (h2 _ (by simp))⟩
    rw [if_neg (by simpa using h26)] at h2
    unfold opsOf at h2 ⊢
    rw [show (i.op == 26) = false by simpa using h26] at h2 ⊢
    split at h2
    · rename_i hc; simp only [hc, if_true]
      exact ⟨.inl (by simp), .inl (by simp), .inr (h2 _ (by simp))⟩
    · rename_i hc; simp only [hc, if_false]
      split at h2
      · rename_i hc; simp only [hc, if_true]
        exact ⟨.inl (by simp), .inr (h2 _ (by simp)), .inr (h2 _ (by simp))⟩
      · rename_i hc; simp only [hc, if_false]
        split at h2
        · rename_i hc; simp only [hc, if_true]
          exact ⟨.inl (by simp), .inl (by simp), .inl (by simp)⟩
        · rename_i hc; simp only [hc, if_false]
          exact ⟨.inr (h2 _ (by simp)), .inr (h2 _ (by simp)), .inr (h2 _ (by simp))⟩
  exact ⟨key _ hh.1, key _ hh.2.1, key _ hh.2.2⟩
theorem fn_z {f : XFunc} {n : Int} (h : funcOk f n = true) : ∀ b ∈ f.blocks, ∀ i ∈ b.insts, (i.op = 24 ∨ i.op = 25) → i.w = 0 := by
  intro b hb i hi ho
  have h1 := (inst_parts ((fn_block h b hb).2.1 i hi)).2.2.2
  unfold wFits at h1
  rw [if_pos (by rcases ho with e | e <;> simp [e])] at h1
  simpa using h1
theorem widthOf_nn {ids n : Int} {i : XInst} (h : instOk ids n i = true) : 0 ≤ widthOf i := by
  obtain ⟨-, -, -, h4⟩ := inst_parts h
  have hw : 0 ≤ i.w := by
    unfold wFits at h4
    split at h4
    · simp at h4; omega
    · split at h4
      · simp at h4; omega
      · exact Int.le_trans (by omega) (width_nn h4).1
  unfold widthOf resW
  repeat' split
  all_goals omega
theorem type_nn {f : XFunc} {n : Int} (h : funcOk f n = true) {id : Int} (h0 : 0 ≤ id) (h1 : id < countOf f) : 0 ≤ typeOf f id := by
  rcases typeOf_cases f id with ⟨h2, -⟩ | ⟨k, hk, -, h3, h2⟩ | ⟨k, hk, j, hj, h3, h2⟩ | ⟨k, hk, j, hj, h3, -, h2⟩
  · rcases placeOf_cases f id with ⟨-, h3⟩ | ⟨h3, -, -⟩ | ⟨k, hk, h3, -, -⟩
    · have := (isIdB_iff (countOf f) id).2 ⟨h0, h1⟩
      rw [h3] at this; cases this
    · rw [h3] at h2; simp at h2
    · rw [h3] at h2; simp at h2
  · rw [h2]
    exact Int.le_trans (by omega) (width_nn (fn_par h _ (List.getElem_mem _))).1
  · rw [h2]
    have := (fn_block h _ (List.getElem_mem hk)).1 _ (List.getElem_mem hj)
    unfold phiOk at this
    simp only [Bool.and_eq_true] at this
    exact Int.le_trans (by omega) (width_nn this.1.1).1
  · rw [h2]
    exact widthOf_nn ((fn_block h _ (List.getElem_mem hk)).2.1 _ (List.getElem_mem hj))
theorem s_TypeOfK (f : XFunc) (cs : List Value) (id n : Int) (w : World) (hf : KFunc lm w f cs) (hok : funcOk f n = true) (hid : id ≤ 9223372036854775807) : Calls Tryz.prog 149 #[.agg cs.toArray, .int .i64 id] w (Ret (.int .i64 (typeOf f id)) w) := s_TypeOf f cs id w hf hid (fn_z hok)
end Go.Proofs.YtkcgejbnhpccdaaGreat
