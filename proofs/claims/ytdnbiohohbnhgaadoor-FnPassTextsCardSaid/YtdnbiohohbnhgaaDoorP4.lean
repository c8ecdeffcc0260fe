/- A string cut at its commas, and what passes it tells, as plain functions on bytes. No conditions. -/
import Derived.Test.YtdnbiohohbnhgaaDoorW1
import Derived.Lib.CountLaws
import Derived.Lib.SlicesS
set_option linter.unusedSimpArgs false
set_option linter.unusedVariables false
namespace Go.Proofs.YtdnbiohohbnhgaaDoor
open Go.RowKit
def comma : ByteArray := ⟨#[44]⟩
def parts (s : ByteArray) : List ByteArray := Lib.splitB comma 0 (Lib.countB s comma) s
theorem parts_miss (s : ByteArray) (h : Lib.indexB s comma = -1) : parts s = [s] := by unfold parts; exact Lib.splitB_miss _ _ _ _ h
theorem parts_hit (s : ByteArray) (i : Nat) (h : Lib.indexB s comma = i) : parts s = s.extract 0 i :: parts (s.extract (i + 1) s.size) := by
  unfold parts
  rw [Lib.countB_hit s comma i (by decide) h, Nat.add_comm 1, Lib.splitB_hit _ _ _ _ i h]
  rfl
theorem index_comma (s : ByteArray) : (Lib.indexB s comma = -1 ∧ ∀ j (h : j < s.size), s[j] ≠ 44) ∨ ∃ i : Nat, Lib.indexB s comma = i ∧ ∃ h : i < s.size, s[i] = 44 ∧ ∀ j (h : j < i), s[j] ≠ 44 := by
  have key : ∀ j (h : j < s.size), Lib.occAt s.data.toList comma.data.toList j = decide (s[j] = 44) := fun j h => by
    unfold Lib.occAt
    have hl : j < s.data.toList.length := by simpa using h
    rw [List.drop_eq_getElem_cons hl]
    show ([44] : List UInt8).isPrefixOf _ = _
    simp only [List.isPrefixOf, Bool.and_true]
    rw [show s.data.toList[j] = s[j] from rfl]
    by_cases h' : s[j] = 44
    · rw [h']; simp
    · have : ¬ (44 : UInt8) = s[j] := fun e => h' e.symm
      simp [h', this]
  rcases Lib.index_spec s.data.toList comma.data.toList with ⟨h1, h2⟩ | ⟨i, h1, h2, h3, h4⟩
  · refine .inl ⟨h1, fun j hj e => ?_⟩
    have := h2 j (by simp; exact Nat.le_of_lt hj)
    rw [key j hj, decide_eq_false_iff_not] at this
    exact this e
  · have hi : i < s.size := by
      rcases Lib.occAt_room h3 with h | h
      · have : i + 1 ≤ s.data.toList.length := h
        have h2 : i + 1 ≤ s.size := by simpa using this
        omega
      · cases h
    refine .inr ⟨i, h1, hi, ?_, fun j hj e => ?_⟩
    · have := h3; rw [key i hi] at this; simpa using this
    · have := h4 j hj
      rw [key j (by omega)] at this
      simp [e] at this
theorem parts_len (s : ByteArray) : (parts s).length = Lib.countB s comma + 1 := by
  suffices h : ∀ n (s : ByteArray), s.size ≤ n → (parts s).length = Lib.countB s comma + 1 from h _ s (Nat.le_refl _)
  intro n
  induction n with
  | zero =>
    intro s hs
    rcases index_comma s with ⟨h, _⟩ | ⟨i, h, hi, _⟩
    · rw [parts_miss s h, Lib.countB_miss s comma h]; rfl
    · omega
  | succ n ih =>
    intro s hs
    rcases index_comma s with ⟨h, _⟩ | ⟨i, h, hi, _⟩
    · rw [parts_miss s h, Lib.countB_miss s comma h]; rfl
    · rw [parts_hit s i h, Lib.countB_hit s comma i (by decide) h, List.length_cons, ih _ (by simp; omega)]
      show _ = 1 + Lib.countB (s.extract (i + 1) s.size) comma + 1
      omega
def cutOf (s : ByteArray) : ByteArray × ByteArray × Bool := if Lib.indexB s comma = -1 then (s, ⟨#[]⟩, false) else (s.extract 0 (Lib.indexB s comma).toNat, s.extract ((Lib.indexB s comma).toNat + 1) s.size, true)
def idxW (w : ByteArray) : Int := Lib.idxOfS words9 w
def pOf : List ByteArray → List Int → Option (List Int)
  | [], out => some out
  | w :: r, out => if idxW w < 0 ∨ out.length = 12 then none else pOf r (out ++ [idxW w + 1])
def passesOf (s : ByteArray) : Option (List Int) := if s.size = 0 then some [] else pOf (parts s) []
theorem pOf_len (l : List ByteArray) : ∀ out r, out.length ≤ 12 → pOf l out = some r → r.length ≤ 12 := by
  induction l with
  | nil => intro out r h e; cases e; exact h
  | cons w t ih =>
    intro out r h e
    unfold pOf at e
    split at e
    · cases e
    · exact ih _ _ (by simp; omega) e
theorem passesOf_len (s : ByteArray) : ((passesOf s).getD []).length ≤ 12 := by
  cases h : passesOf s with
  | none => simp
  | some r =>
    unfold passesOf at h
    split at h
    · cases h; simp
    · exact pOf_len _ _ _ (by simp) h
theorem empty_iff (s : ByteArray) : s.toList.isEmpty = decide (s.size = 0) := by
  rw [Lib.toList_data]
  have : s.size = s.data.toList.length := by simp
  rw [this]
  cases s.data.toList <;> simp
theorem idxFrom_rng (x : ByteArray) : ∀ (zs : List ByteArray) (i : Nat), (Lib.idxFromS zs x i = -1 ∨ ((i : Int) ≤ Lib.idxFromS zs x i ∧ Lib.idxFromS zs x i < i + zs.length))
  | [], i => .inl rfl
  | z :: zs, i => by
    unfold Lib.idxFromS
    split
    · exact .inr ⟨Int.le_refl _, by simp; omega⟩
    · rcases idxFrom_rng x zs (i + 1) with h | ⟨h1, h2⟩
      · exact .inl h
      · exact .inr ⟨by omega, by simp only [List.length_cons]; omega⟩
theorem idxW_rng (w : ByteArray) : idxW w = -1 ∨ (0 ≤ idxW w ∧ idxW w < 9) := by
  rcases idxFrom_rng w words9 0 with h | ⟨h1, h2⟩
  · exact .inl h
  · exact .inr ⟨h1, Int.lt_of_lt_of_le h2 (by decide)⟩
end Go.Proofs.YtdnbiohohbnhgaaDoor
