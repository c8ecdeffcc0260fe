/- What is read as data of a type of the laws is read as lists of my plain types. No conditions. -/
import Derived.Test.YtdnbiohohbnhgaaDoorB2
import Derived.Deep.Slices
import Derived.ProofKit
set_option linter.unusedSimpArgs false
set_option linter.unusedVariables false
namespace Go.Proofs.YtdnbiohohbnhgaaDoor
open Go.RowKit Go.Deep Go.ChangeShapes Go.WideShapes
theorem ln2 {cs : List Value} (h : cs.length = 2) : ∃ c0 c1, cs = [c0, c1] := by
  match cs, h with
  | [c0, c1], _ => exact ⟨_, _, rfl⟩
theorem ln3 {cs : List Value} (h : cs.length = 3) : ∃ c0 c1 c2, cs = [c0, c1, c2] := by
  match cs, h with
  | [c0, c1, c2], _ => exact ⟨_, _, _, rfl⟩
theorem ln4 {cs : List Value} (h : cs.length = 4) : ∃ c0 c1 c2 c3, cs = [c0, c1, c2, c3] := by
  match cs, h with
  | [c0, c1, c2, c3], _ => exact ⟨_, _, _, _, rfl⟩
theorem ln6 {cs : List Value} (h : cs.length = 6) : ∃ c0 c1 c2 c3 c4 c5, cs = [c0, c1, c2, c3, c4, c5] := by
  match cs, h with
  | [c0, c1, c2, c3, c4, c5], _ => exact ⟨_, _, _, _, _, _, rfl⟩
theorem ln7 {cs : List Value} (h : cs.length = 7) : ∃ c0 c1 c2 c3 c4 c5 c6, cs = [c0, c1, c2, c3, c4, c5, c6] := by
  match cs, h with
  | [c0, c1, c2, c3, c4, c5, c6], _ => exact ⟨_, _, _, _, _, _, _, rfl⟩
section
variable {H : Type} {enc : TypeId × Value → H}
/-- What is read as data of a type is of a kind. -/
def Op {α : Type} (enc : TypeId × Value → H) (W : World) (t sz : Nat) (K : World → α → List Value → Prop) : Prop := ∀ (n : Nat) (cs : List Value) (y : DataW H × List MemPlace), DataW.trod enc Tryd.prog W 0 (fun _ => true) true n t cs = some y → ∃ x, K W x cs ∧ cs.length = sz
theorem op_int {W : World} : Op enc W 2 1 KInt := fun n cs y h => by
  obtain ⟨q, rfl, _, _⟩ := DataW.trod_int Tryd.underlying2 h
  exact ⟨q, rfl, rfl⟩
theorem op_slice {α : Type} [Inhabited α] {W : World} {t e sz : Nat} {K : World → α → List Value → Prop} (ht : Tryd.prog.underlying t = some (.slice e)) (hc : Tryd.prog.cellsOf e = sz) (hz : 0 < sz) (hK : Op enc W e sz K) {n : Nat} {cs : List Value} {y : DataW H × List MemPlace} (h : DataW.trod enc Tryd.prog W 0 (fun _ => true) true n t cs = some y) : ∃ v xs, cs = [v] ∧ Rd lw sz K W v xs := by
  rcases open_slice ht h with ⟨rfl, _⟩ | ⟨a, len, cap, m, n', D, Pl, rfl, _, hl, hm, hmm, _, hx⟩
  · exact ⟨_, [], rfl, none, 0, rfl, Nat.le_refl _, Nat.zero_le _, fun _ => rfl, fun h => absurd h (Nat.lt_irrefl _)⟩
  have hlm : len ≤ m := by rw [hmm]; simpa using hl
  clear hmm
  have each : ∀ i, i < m → ∃ x cs', K W x cs' ∧ cs'.length = sz ∧ ∀ j, j < sz → W.cell? ((a.add (i * sz)).add j) = cs'[j]? := fun i hi => by
    obtain ⟨cs', h1, h2⟩ := hx i hi
    rw [hc] at h1
    obtain ⟨_, hlen, hcell⟩ := World.cells?_some h1
    obtain ⟨x, h3, _⟩ := hK _ _ _ h2
    exact ⟨x, cs', h3, hlen, hcell⟩
  obtain ⟨f, hf⟩ := choose_lt each
  refine ⟨_, (List.range len).map f, rfl, some a, cap, by simp, by simpa using hl, by simp; unfold maxLen at hm; show len ≤ 9223372036854775807; omega, (by simp), fun h0 => ?_⟩
  have h0' : 0 < len := by simpa using h0
  obtain ⟨cs0, _, hl0, hc0⟩ := hf 0 (by omega)
  have h00 := hc0 0 hz
  rw [List.getElem?_eq_getElem (by omega)] at h00
  have hsp : a.spot = none := by simpa [Addr.add] using World.cell?_spot h00
  obtain ⟨b, off, sp⟩ := a
  cases hsp
  have hb : b < W.heap.size := by
    unfold World.cell? at h00
    split at h00
    · rename_i hh; rw [add_plain, add_plain] at hh; exact (Array.getElem?_eq_some_iff.1 hh).1
    · cases h00
  refine ⟨b, off, rfl, hb, fun i hi => ?_⟩
  have hi' : i < len := by simpa using hi
  obtain ⟨cs', h1, h2, h3⟩ := hf i (by omega)
  refine ⟨cs', by simpa using h1, h2, fun j hj => ?_⟩
  have := h3 j (by omega)
  rw [List.getElem?_eq_getElem hj] at this
  rw [add_plain, add_plain] at this
  exact this
theorem cells_int : Tryd.prog.cellsOf 2 = 1 := by kernel_rfl
theorem op_ints {W : World} {n : Nat} {cs : List Value} {y : DataW H × List MemPlace} (h : DataW.trod enc Tryd.prog W 0 (fun _ => true) true n 22 cs = some y) : ∃ v xs, cs = [v] ∧ RI lw W v xs := op_slice Tryd.underlying22 cells_int (by omega) op_int h
theorem cells_ints : Tryd.prog.cellsOf 22 = 1 := by kernel_rfl
end
end Go.Proofs.YtdnbiohohbnhgaaDoor
