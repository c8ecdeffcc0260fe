import Derived.Test.YtkcgejbnhpccdaaGreatP31
set_option linter.unusedSimpArgs false
set_option linter.unusedVariables false
namespace Go.Proofs.YtkcgejbnhpccdaaGreat
open Go.RowKit
/-! ### more fuel, less fuel: plain -/
/-- What is told out only grows, and the steps do. -/
def Mn (s t : RS) : Prop := s.out <+: t.out ∧ s.steps ≤ t.steps
theorem Mn.refl (s : RS) : Mn s s := ⟨List.prefix_refl _, Nat.le_refl _⟩
theorem Mn.trans {a b c : RS} (h : Mn a b) (k : Mn b c) : Mn a c := ⟨h.1.trans k.1, Nat.le_trans h.2 k.2⟩
def CallMn (call : Callee) : Prop := ∀ k args s, Mn s (call k args s).2
theorem doI_mn {call : Callee} (hc : CallMn call) (f : XFunc) (i : XInst) (vals : List Int) (s : RS) : Mn s (doI call f i vals s).2 := by
  unfold doI
  repeat' split
  all_goals first
    | exact Mn.refl _
    | exact hc _ _ _
    | exact ⟨List.prefix_append _ _, Nat.le_refl _⟩
    | exact ⟨List.prefix_refl _, Nat.le_refl _⟩
theorem instsR_mn {call : Callee} (hc : CallMn call) (f : XFunc) (fuel : Nat) : ∀ (l : List XInst) (id : Nat) (vals : List Int) (s : RS), Mn s (instsR call f fuel l id vals s).2.2
  | [], _, _, _ => Mn.refl _
  | i :: r, id, vals, s => by
    have h1 : Mn s ⟨s.mem, s.out, s.steps + 1⟩ := ⟨List.prefix_refl _, Nat.le_succ _⟩
    have h2 := h1.trans (doI_mn hc f i vals ⟨s.mem, s.out, s.steps + 1⟩)
    unfold instsR
    split
    · exact Mn.refl _
    split
    · exact h2.trans (instsR_mn hc f fuel r _ _ _)
    · exact h2
/-- What follows the instructions of a block. -/
def restR (call : Callee) (f : XFunc) (fuel n : Nat) (b : Int) (R : Int × List Int × RS) : (Int × Int) × RS :=
  let t := (blkAt f b).term
  if R.1 = 0 then
    if R.2.2.steps = fuel then ((0, 4), R.2.2)
    else if t.kind = 4 then ((0, 3), ⟨R.2.2.mem, R.2.2.out, R.2.2.steps + 1⟩)
    else if t.kind = 1 then ((vl R.2.1 t.a, 0), ⟨R.2.2.mem, R.2.2.out, R.2.2.steps + 1⟩)
    else blocksR call f fuel n (goTo t R.2.1) (enterV f (goTo t R.2.1) b R.2.1) ⟨R.2.2.mem, R.2.2.out, R.2.2.steps + 1⟩
  else ((0, R.1), R.2.2)
theorem blocksR_rest (call : Callee) (f : XFunc) (fuel n : Nat) (b : Int) (vals : List Int) (s : RS) : blocksR call f fuel (n + 1) b vals s = restR call f fuel n b (instsR call f fuel (blkAt f b).insts (firstOf f b + (blkAt f b).phis.length).toNat vals s) := rfl
theorem restR_mn {call : Callee} {f : XFunc} {fuel n : Nat} (h : ∀ b vals s, Mn s (blocksR call f fuel n b vals s).2) (b : Int) (R : Int × List Int × RS) : Mn R.2.2 (restR call f fuel n b R).2 := by
  have h1 : Mn R.2.2 ⟨R.2.2.mem, R.2.2.out, R.2.2.steps + 1⟩ := ⟨List.prefix_refl _, Nat.le_succ _⟩
  unfold restR
  simp only
  repeat' split
  all_goals first
    | exact Mn.refl _
    | exact h1
    | exact h1.trans (h _ _ _)
theorem blocksR_mn {call : Callee} (hc : CallMn call) (f : XFunc) (fuel : Nat) : ∀ (n : Nat) (b : Int) (vals : List Int) (s : RS), Mn s (blocksR call f fuel n b vals s).2
  | 0, _, _, _ => Mn.refl _
  | n + 1, b, vals, s => by
    rw [blocksR_rest]
    exact (instsR_mn hc f fuel _ _ _ _).trans (restR_mn (blocksR_mn hc f fuel n) b _)
theorem callR_mn (m : XMod) (fuel : Nat) : ∀ d, CallMn (callR m fuel d)
  | 0 => fun _ _ _ => Mn.refl _
  | d + 1 => fun k args s => by
    unfold callR
    exact blocksR_mn (callR_mn m fuel d) _ _ _ _ _ _
def CallLe (F : Nat) (call : Callee) : Prop := ∀ k args s, s.steps ≤ F → (call k args s).2.steps ≤ F
theorem doI_le {F : Nat} {call : Callee} (hc : CallLe F call) (f : XFunc) (i : XInst) (vals : List Int) (s : RS) (hs : s.steps ≤ F) : (doI call f i vals s).2.steps ≤ F := by
  unfold doI
  repeat' split
  all_goals first
    | exact hs
    | exact hc _ _ _ hs
theorem instsR_le {F : Nat} {call : Callee} (hc : CallLe F call) (f : XFunc) : ∀ (l : List XInst) (id : Nat) (vals : List Int) (s : RS), s.steps ≤ F → (instsR call f F l id vals s).2.2.steps ≤ F
  | [], _, _, _, hs => hs
  | i :: r, id, vals, s, hs => by
    unfold instsR
    split
    · exact hs
    rename_i hne
    have h2 := doI_le hc f i vals ⟨s.mem, s.out, s.steps + 1⟩ (by show s.steps + 1 ≤ F; omega)
    split
    · exact instsR_le hc f r _ _ _ h2
    · exact h2
theorem blocksR_le {F : Nat} {call : Callee} (hc : CallLe F call) (f : XFunc) : ∀ (n : Nat) (b : Int) (vals : List Int) (s : RS), s.steps ≤ F → (blocksR call f F n b vals s).2.steps ≤ F
  | 0, _, _, _, hs => hs
  | n + 1, b, vals, s, hs => by
    rw [blocksR_rest]
    have h1 := instsR_le hc f (blkAt f b).insts (firstOf f b + (blkAt f b).phis.length).toNat vals s hs
    generalize instsR call f F (blkAt f b).insts (firstOf f b + (blkAt f b).phis.length).toNat vals s = R at *
    unfold restR
    simp only
    split
    · split
      · exact h1
      · rename_i hne
        have h2 : R.2.2.steps + 1 ≤ F := by omega
        repeat' split
        all_goals first
          | exact h2
          | exact blocksR_le hc f n _ _ _ h2
    · exact h1
theorem callR_le (m : XMod) (F : Nat) : ∀ d, CallLe F (callR m F d)
  | 0 => fun _ _ _ hs => hs
  | d + 1 => fun k args s hs => by
    unfold callR
    exact blocksR_le (callR_le m F d) _ _ _ _ _ hs
/-- The same, or out of fuel and on. -/
def Ext (A B : (Int × Int) × RS) : Prop := (A.1.2 ≠ 4 ∧ B = A) ∨ (A.1.2 = 4 ∧ Mn A.2 B.2)
def CallExt (F : Nat) (cA cB : Callee) : Prop := ∀ k args s, s.steps ≤ F → Ext (cA k args s) (cB k args s)
theorem doI_ext {F : Nat} {cA cB : Callee} (hc : CallExt F cA cB) (f : XFunc) (i : XInst) (vals : List Int) (s : RS) (hs : s.steps ≤ F) : Ext (doI cA f i vals s) (doI cB f i vals s) := by
  unfold doI
  repeat' split
  all_goals first
    | exact .inl ⟨by decide, rfl⟩
    | exact .inl ⟨by simp, rfl⟩
    | exact hc _ _ _ hs
def ExtI (A B : Int × List Int × RS) : Prop := (A.1 ≠ 4 ∧ B = A) ∨ (A.1 = 4 ∧ Mn A.2.2 B.2.2)
theorem instsR_ext {F F' : Nat} (hF : F ≤ F') {cA cB : Callee} (hc : CallExt F cA cB) (hl : CallLe F cA) (hm : CallMn cB) (f : XFunc) : ∀ (l : List XInst) (id : Nat) (vals : List Int) (s : RS), s.steps ≤ F → ExtI (instsR cA f F l id vals s) (instsR cB f F' l id vals s)
  | [], _, _, _, _ => .inl ⟨by simp [instsR], rfl⟩
  | i :: r, id, vals, s, hs => by
    by_cases he : s.steps = F
    · have h1 := instsR_mn hm f F' (i :: r) id vals s
      right
      have e : instsR cA f F (i :: r) id vals s = (4, vals, s) := by unfold instsR; rw [if_pos he]
      rw [e]
      exact ⟨rfl, h1⟩
    · have hs1 : s.steps + 1 ≤ F := by omega
      have h2 := doI_ext hc f i vals ⟨s.mem, s.out, s.steps + 1⟩ hs1
      have h3 := doI_le hl f i vals ⟨s.mem, s.out, s.steps + 1⟩ hs1
      have eA : instsR cA f F (i :: r) id vals s = if (doI cA f i vals ⟨s.mem, s.out, s.steps + 1⟩).1.2 = 0 then instsR cA f F r (id + 1) (vals.set id (doI cA f i vals ⟨s.mem, s.out, s.steps + 1⟩).1.1) (doI cA f i vals ⟨s.mem, s.out, s.steps + 1⟩).2 else ((doI cA f i vals ⟨s.mem, s.out, s.steps + 1⟩).1.2, vals, (doI cA f i vals ⟨s.mem, s.out, s.steps + 1⟩).2) := by
        rw [instsR, if_neg he]
      have eB : instsR cB f F' (i :: r) id vals s = if (doI cB f i vals ⟨s.mem, s.out, s.steps + 1⟩).1.2 = 0 then instsR cB f F' r (id + 1) (vals.set id (doI cB f i vals ⟨s.mem, s.out, s.steps + 1⟩).1.1) (doI cB f i vals ⟨s.mem, s.out, s.steps + 1⟩).2 else ((doI cB f i vals ⟨s.mem, s.out, s.steps + 1⟩).1.2, vals, (doI cB f i vals ⟨s.mem, s.out, s.steps + 1⟩).2) := by
        rw [instsR, if_neg (by omega)]
      rw [eA, eB]
      generalize doI cA f i vals ⟨s.mem, s.out, s.steps + 1⟩ = A at *
      generalize doI cB f i vals ⟨s.mem, s.out, s.steps + 1⟩ = B at *
      rcases h2 with ⟨n4, rfl⟩ | ⟨e4, hmn⟩
      · split
        · exact instsR_ext hF hc hl hm f r _ _ _ h3
        · exact .inl ⟨n4, rfl⟩
      · rw [if_neg (by rw [e4]; decide)]
        right
        refine ⟨e4, ?_⟩
        split
        · exact hmn.trans (instsR_mn hm f F' r _ _ _)
        · exact hmn
theorem blocksR_ext {F F' : Nat} (hF : F ≤ F') {cA cB : Callee} (hc : CallExt F cA cB) (hl : CallLe F cA) (hmA : CallMn cA) (hm : CallMn cB) (f : XFunc) : ∀ (n n' : Nat) (b : Int) (vals : List Int) (s : RS), s.steps ≤ F → F + 1 ≤ n + s.steps → F' + 1 ≤ n' + s.steps → Ext (blocksR cA f F n b vals s) (blocksR cB f F' n' b vals s)
  | 0, _, _, _, _, hs, hn, _ => absurd hn (by omega)
  | _ + 1, 0, _, _, _, hs, _, hn' => absurd hn' (by omega)
  | n + 1, n' + 1, b, vals, s, hs, hn, hn' => by
    rw [blocksR_rest, blocksR_rest]
    have h1 := instsR_ext hF hc hl hm f (blkAt f b).insts (firstOf f b + (blkAt f b).phis.length).toNat vals s hs
    have h2 := instsR_le hl f (blkAt f b).insts (firstOf f b + (blkAt f b).phis.length).toNat vals s hs
    have h4 := (instsR_mn hmA f F (blkAt f b).insts (firstOf f b + (blkAt f b).phis.length).toNat vals s).2
    generalize instsR cA f F (blkAt f b).insts (firstOf f b + (blkAt f b).phis.length).toNat vals s = A at *
    generalize instsR cB f F' (blkAt f b).insts (firstOf f b + (blkAt f b).phis.length).toNat vals s = B at *
    have h3 := restR_mn (blocksR_mn hm f F' n') b B
    rcases h1 with ⟨n4, rfl⟩ | ⟨e4, hmn⟩
    · by_cases h0 : B.1 = 0
      · by_cases hst : B.2.2.steps = F
        · right
          have e : restR cA f F n b B = ((0, 4), B.2.2) := by unfold restR; simp only; rw [if_pos h0, if_pos hst]
          rw [e]
          exact ⟨rfl, h3⟩
        · have hst' : ¬ B.2.2.steps = F' := by omega
          unfold restR
          simp only
          rw [if_pos h0, if_neg hst, if_pos h0, if_neg hst']
          split
          · exact .inl ⟨by simp, rfl⟩
          split
          · exact .inl ⟨by simp, rfl⟩
          · exact blocksR_ext hF hc hl hmA hm f n n' _ _ _ (by show B.2.2.steps + 1 ≤ F; omega) (by show F + 1 ≤ n + (B.2.2.steps + 1); omega) (by show F' + 1 ≤ n' + (B.2.2.steps + 1); omega)
      · left
        unfold restR
        simp only
        rw [if_neg h0, if_neg h0]
        exact ⟨n4, rfl⟩
    · right
      have e : restR cA f F n b A = ((0, 4), A.2.2) := by unfold restR; simp only; rw [if_neg (by rw [e4]; decide), e4]
      rw [e]
      exact ⟨rfl, hmn.trans h3⟩
theorem callR_ext (m : XMod) {F F' : Nat} (hF : F ≤ F') : ∀ d, CallExt F (callR m F d) (callR m F' d)
  | 0 => fun _ _ _ _ => .inl ⟨by simp [callR], rfl⟩
  | d + 1 => fun k args s hs => by
    unfold callR
    exact blocksR_ext hF (callR_ext m hF d) (callR_le m F d) (callR_mn m F d) (callR_mn m F' d) _ _ _ _ _ _ hs (by omega) (by omega)
/-- Whoever has more fuel does the same, or goes on. -/
theorem resR_more (m : XMod) (k : Int) (args : List Int) (mem : ByteArray) (fuel fuel' : Int) (h0 : 0 ≤ fuel) (hle : fuel ≤ fuel') (h2 : fuel' ≤ 2000) :
    ((resR m k args mem fuel).code ≠ 4 ∧ resR m k args mem fuel' = resR m k args mem fuel) ∨ ((resR m k args mem fuel).code = 4 ∧ (resR m k args mem fuel).out <+: (resR m k args mem fuel').out ∧ (resR m k args mem fuel).steps ≤ (resR m k args mem fuel').steps) := by
  unfold resR
  split
  · have e : invOk m k args mem fuel = invOk m k args mem fuel' := by
      unfold invOk inR
      simp [h0, show 0 ≤ fuel' by omega, h2, show fuel ≤ 2000 by omega]
    unfold resI
    rw [e]
    split
    · have h := callR_ext m (F := fuel.toNat) (F' := fuel'.toNat) (by omega) 6 k args (rs0 mem) (by simp [rs0])
      generalize callR m fuel.toNat 6 k args (rs0 mem) = A at *
      generalize callR m fuel'.toNat 6 k args (rs0 mem) = B at *
      rcases h with ⟨n4, rfl⟩ | ⟨e4, h1, h3⟩
      · exact .inl ⟨n4, rfl⟩
      · exact .inr ⟨e4, h1, by unfold runRes; simpa using h3⟩
    · exact .inl ⟨by simp [res6], rfl⟩
  · exact .inl ⟨by simp [res6], rfl⟩
end Go.Proofs.YtkcgejbnhpccdaaGreat
