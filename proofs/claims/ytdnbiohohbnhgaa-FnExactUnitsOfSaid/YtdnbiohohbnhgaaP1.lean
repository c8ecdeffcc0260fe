/- The plain functions of places and units. No conditions. -/
import Derived.Test.YtdnbiohohbnhgaaP0
set_option linter.unusedSimpArgs false
set_option linter.unusedVariables false
namespace Go.Proofs.Ytdnbiohohbnhgaa
open Go.RowKit
/-! ### places -/
def placeIn : List XBlock → Int → Int → Int → Int × Int
  | [], _, _, _ => (-2, 0)
  | x :: r, b, n, id => if id < n + sizeB x then (b, id - n) else placeIn r (b + 1) (n + sizeB x) id
def placeOf (f : XFunc) (id : Int) : Int × Int :=
  if isIdB (countOf f) id then (if id < f.params.length then (-1, id) else placeIn f.blocks 0 f.params.length id) else (-2, 0)
theorem placeOf_eq (f : XFunc) (id : Int) : placeOf f id = if isIdB (countOf f) id then (if id < f.params.length then (-1, id) else placeIn f.blocks 0 f.params.length id) else (-2, 0) := rfl
theorem placeIn_drop (l : List XBlock) (k : Nat) (h : k < l.length) (n id : Int) : placeIn (l.drop k) k n id = if id < n + sizeB l[k] then ((k : Int), id - n) else placeIn (l.drop (k + 1)) ((k + 1 : Nat) : Int) (n + sizeB l[k]) id := by
  rw [List.drop_eq_getElem_cons h]; simp [placeIn]
theorem placeIn_spec (l : List XBlock) : ∀ (b0 n id : Int), 0 ≤ b0 → n ≤ id → (placeIn l b0 n id = (-2, 0) ∧ countIn n l ≤ id) ∨
    ∃ k, ∃ h : k < l.length, placeIn l b0 n id = (b0 + k, id - countIn n (l.take k)) ∧ countIn n (l.take k) ≤ id ∧ id < countIn n (l.take k) + sizeB l[k] := by
  induction l with
  | nil => intro b0 n id _ h; left; exact ⟨rfl, by simpa [countIn] using h⟩
  | cons x r ih =>
    intro b0 n id hb hn
    unfold placeIn
    by_cases h : id < n + sizeB x
    · right; refine ⟨0, by simp, ?_, ?_, ?_⟩
      · rw [if_pos h]; simp [countIn]
      · simpa [countIn] using hn
      · simpa [countIn] using h
    · rw [if_neg h]
      rcases ih (b0 + 1) (n + sizeB x) id (by omega) (by omega) with ⟨h1, h2⟩ | ⟨k, hk, h1, h2, h3⟩
      · left; exact ⟨h1, by simpa [countIn, Int.add_assoc] using h2⟩
      · right
        refine ⟨k + 1, by simpa using hk, ?_, ?_, ?_⟩
        · rw [h1]; simp [countIn]; omega
        · simpa [countIn, Int.add_assoc] using h2
        · simpa [countIn, Int.add_assoc] using h3
/-- What the place of an id is. -/
theorem placeOf_cases (f : XFunc) (id : Int) : (placeOf f id = (-2, 0) ∧ isIdB (countOf f) id = false) ∨ (placeOf f id = (-1, id) ∧ 0 ≤ id ∧ id < f.params.length) ∨
    ∃ k, ∃ h : k < f.blocks.length, placeOf f id = ((k : Int), id - countIn f.params.length (f.blocks.take k)) ∧ countIn f.params.length (f.blocks.take k) ≤ id ∧ id < countIn f.params.length (f.blocks.take k) + sizeB f.blocks[k] := by
  unfold placeOf
  cases h : isIdB (countOf f) id with
  | false => left; simp
  | true =>
    right
    have h' : 0 ≤ id ∧ id ≤ countOf f - 1 := by simpa [isIdB, inR] using h
    by_cases h2 : id < f.params.length
    · left; simp [h2]; omega
    · right
      rcases placeIn_spec f.blocks 0 f.params.length id (by omega) (by omega) with ⟨h1, h3⟩ | ⟨k, hk, h1, h3, h4⟩
      · unfold countOf at h'; omega
      · exact ⟨k, hk, by simp [h2, h1], h3, h4⟩
def inst0 : XInst := ⟨0, 0, 0, 0, 0, 0, []⟩
def block0 : XBlock := ⟨[], [], ⟨0, 0, 0, 0⟩⟩
def instAt (f : XFunc) (id : Int) : XInst × Bool :=
  if (placeOf f id).1 < 0 then (inst0, false)
  else if (placeOf f id).2 < ((f.blocks.getD (placeOf f id).1.toNat block0).phis.length : Int) then (inst0, false)
  else ((f.blocks.getD (placeOf f id).1.toNat block0).insts.getD ((placeOf f id).2 - (f.blocks.getD (placeOf f id).1.toNat block0).phis.length).toNat inst0, true)
def isUnit (f : XFunc) (id : Int) : Bool := (instAt f id).2 && ((instAt f id).1.op == 24 || (instAt f id).1.op == 25)
/-- 0, 1, .. below n. -/
def upTo (n : Nat) : List Int := (List.range n).map fun (i : Nat) => (i : Int)
theorem upTo_succ (n : Nat) : upTo (n + 1) = upTo n ++ [(n : Int)] := by simp [upTo, List.range_succ]
def unitsOf (f : XFunc) : List Int := (upTo (countOf f).toNat).filter (isUnit f)
end Go.Proofs.Ytdnbiohohbnhgaa
