/- That the reference's way to count units gives what the program's gives. No conditions. -/
import Derived.Test.YtdnbiohohbnhgaaP1
set_option linter.unusedSimpArgs false
set_option linter.unusedVariables false
namespace Go.Proofs.Ytdnbiohohbnhgaa
open Go.RowKit
theorem countIn_append (n : Int) (l1 l2 : List XBlock) : countIn n (l1 ++ l2) = countIn (countIn n l1) l2 := by
  simp [countIn, List.sum_append]; omega
theorem countIn_take_le (n : Int) (l : List XBlock) (k : Nat) : countIn n (l.take k) ≤ countIn n l := by
  have h : countIn n l = countIn n (l.take k ++ l.drop k) := by rw [List.take_append_drop]
  rw [h, countIn_append]
  exact countIn_le _ _
theorem placeIn_at (l : List XBlock) : ∀ (k : Nat) (hk : k < l.length) (b0 n id : Int), countIn n (l.take k) ≤ id → id < countIn n (l.take k) + sizeB l[k] → placeIn l b0 n id = (b0 + k, id - countIn n (l.take k)) := by
  induction l with
  | nil => intro k hk; simp at hk
  | cons x r ih =>
    intro k hk b0 n id h1 h2
    unfold placeIn
    cases k with
    | zero =>
      simp [countIn] at h1 h2 ⊢
      intro h; omega
    | succ k =>
      have hc : countIn n ((x :: r).take (k + 1)) = countIn (n + sizeB x) (r.take k) := by simp [countIn]; omega
      rw [hc] at h1 h2 ⊢
      have := countIn_le (n + sizeB x) (r.take k)
      rw [if_neg (by omega), ih k (by simpa using hk) (b0 + 1) (n + sizeB x) id h1 (by simpa using h2)]
      congr 1
      push_cast; omega
theorem placeOf_at (f : XFunc) (k : Nat) (hk : k < f.blocks.length) (id : Int) (h1 : countIn f.params.length (f.blocks.take k) ≤ id) (h2 : id < countIn f.params.length (f.blocks.take k) + sizeB f.blocks[k]) :
    placeOf f id = ((k : Int), id - countIn f.params.length (f.blocks.take k)) := by
  have h3 := countIn_take_le f.params.length f.blocks (k + 1)
  rw [countIn_snoc _ _ _ hk] at h3
  have h4 := countIn_le f.params.length (f.blocks.take k)
  have h5 : isIdB (countOf f) id = true := by
    have : countIn f.params.length f.blocks = countOf f := rfl
    simp [isIdB, inR]; omega
  unfold placeOf
  rw [if_pos h5, if_neg (by omega), placeIn_at f.blocks k hk 0 _ id h1 h2]
  simp
theorem instAt_phi (f : XFunc) (k : Nat) (hk : k < f.blocks.length) (j : Nat) (hj : j < f.blocks[k].phis.length) : instAt f (countIn f.params.length (f.blocks.take k) + j) = (inst0, false) := by
  have hp := placeOf_at f k hk (countIn f.params.length (f.blocks.take k) + j) (by omega) (by unfold sizeB; omega)
  simp only [instAt, hp]
  rw [if_neg (by omega), Int.toNat_natCast, show f.blocks.getD k block0 = f.blocks[k] by simp [hk], if_pos (by omega)]
theorem instAt_inst (f : XFunc) (k : Nat) (hk : k < f.blocks.length) (j : Nat) (hj : j < f.blocks[k].insts.length) : instAt f (countIn f.params.length (f.blocks.take k) + f.blocks[k].phis.length + j) = (f.blocks[k].insts[j], true) := by
  have hp := placeOf_at f k hk (countIn f.params.length (f.blocks.take k) + f.blocks[k].phis.length + j) (by omega) (by unfold sizeB; omega)
  simp only [instAt, hp]
  rw [if_neg (by omega), Int.toNat_natCast, show f.blocks.getD k block0 = f.blocks[k] by simp [hk], if_neg (by omega)]
  rw [show (countIn f.params.length (f.blocks.take k) + f.blocks[k].phis.length + j - countIn f.params.length (f.blocks.take k) - f.blocks[k].phis.length).toNat = j by omega]
  simp [hj]
theorem instAt_param (f : XFunc) (j : Int) (h0 : 0 ≤ j) (hj : j < f.params.length) : instAt f j = (inst0, false) := by
  have : (placeOf f j).1 < 0 := by
    unfold placeOf
    rw [if_pos hj]
    split
    · show (-1 : Int) < 0; omega
    · show (-2 : Int) < 0; omega
  simp [instAt, this]
/-- The units below an id. -/
def unitsTo (f : XFunc) (n : Int) : List Int := (upTo n.toNat).filter (isUnit f)
theorem unitsTo_succ (f : XFunc) (n : Int) (h : 0 ≤ n) : unitsTo f (n + 1) = unitsTo f n ++ (if isUnit f n then [n] else []) := by
  obtain ⟨m, rfl⟩ := Int.eq_ofNat_of_zero_le h
  unfold unitsTo
  rw [show ((m : Int) + 1).toNat = m + 1 by omega, Int.toNat_natCast, upTo_succ, List.filter_append]
  congr 1
  cases h : isUnit f m <;> simp [h]
theorem unitsTo_skip (f : XFunc) (n : Int) (h : 0 ≤ n) (m : Nat) (hn : ∀ j : Nat, j < m → isUnit f (n + j) = false) : unitsTo f (n + m) = unitsTo f n := by
  induction m with
  | zero => simp
  | succ m ih =>
    rw [show n + ((m + 1 : Nat) : Int) = (n + m) + 1 by omega, unitsTo_succ f _ (by omega), hn m (by omega), ih (fun j hj => hn j (by omega))]
    simp
theorem unitsTo_params (f : XFunc) : unitsTo f f.params.length = [] := by
  have := unitsTo_skip f 0 (by omega) f.params.length (fun j hj => by
    rw [isUnit, instAt_param f _ (by omega) (by omega)]; rfl)
  rw [Int.zero_add] at this
  rw [this]; rfl
theorem unitsTo_phis (f : XFunc) (k : Nat) (hk : k < f.blocks.length) : unitsTo f (countIn f.params.length (f.blocks.take k) + f.blocks[k].phis.length) = unitsTo f (countIn f.params.length (f.blocks.take k)) :=
  unitsTo_skip f _ (by have := countIn_le f.params.length (f.blocks.take k); omega) _ (fun j hj => by rw [isUnit, instAt_phi f k hk j hj]; rfl)
theorem unitsTo_inst (f : XFunc) (k : Nat) (hk : k < f.blocks.length) (j : Nat) (hj : j < f.blocks[k].insts.length) :
    unitsTo f (countIn f.params.length (f.blocks.take k) + f.blocks[k].phis.length + j + 1) = unitsTo f (countIn f.params.length (f.blocks.take k) + f.blocks[k].phis.length + j) ++ (if f.blocks[k].insts[j].op == 24 || f.blocks[k].insts[j].op == 25 then [countIn f.params.length (f.blocks.take k) + f.blocks[k].phis.length + j] else []) := by
  rw [unitsTo_succ f _ (by have := countIn_le f.params.length (f.blocks.take k); omega), isUnit, instAt_inst f k hk j hj]
  rfl
theorem unitsOf_eq (f : XFunc) : unitsOf f = unitsTo f (countOf f) := rfl
theorem unitsTo_le (f : XFunc) (n : Int) : (unitsTo f n).length ≤ n.toNat := by
  refine Nat.le_trans (List.length_filter_le _ _) (by simp [upTo])
end Go.Proofs.Ytdnbiohohbnhgaa
