/- Runs of cells written, and rows of the call's own with elements of any kind. No conditions. -/
import Derived.Test.YtdnbiohohbnhgaaDoorA0
set_option linter.unusedSimpArgs false
set_option linter.unusedVariables false
namespace Go.Proofs.YtdnbiohohbnhgaaDoor
open Go.RowKit
/-! ### a run of cells written -/
def setAll (w : World) (G : Nat) : Nat → List Value → World
  | _, [] => w
  | o, u :: r => setAll (w.setCell ⟨G, o, none⟩ u) G (o + 1) r
def setL (cells : List Value) : Nat → List Value → List Value
  | _, [] => cells
  | o, u :: r => setL (cells.set o u) (o + 1) r
theorem setL_len (us : List Value) : ∀ (cells : List Value) (o : Nat), (setL cells o us).length = cells.length := by
  induction us with
  | nil => intro cells o; rfl
  | cons u r ih => intro cells o; rw [setL, ih]; simp
theorem setL_out (us : List Value) : ∀ (cells : List Value) (o i : Nat), i < o ∨ o + us.length ≤ i → (setL cells o us)[i]? = cells[i]? := by
  induction us with
  | nil => intro cells o i _; rfl
  | cons u r ih =>
    intro cells o i h
    simp only [List.length_cons] at h
    rw [setL, ih _ _ _ (by omega), List.getElem?_set_ne (by omega)]
theorem setL_in (us : List Value) : ∀ (cells : List Value) (o j : Nat), j < us.length → o + us.length ≤ cells.length → (setL cells o us)[o + j]? = us[j]? := by
  induction us with
  | nil => intro cells o j h; simp at h
  | cons u r ih =>
    intro cells o j h hl
    simp only [List.length_cons] at h hl
    rw [setL]
    cases j with
    | zero =>
      rw [setL_out _ _ _ _ (by omega), Nat.add_zero, List.getElem?_set_self (by omega)]
      rfl
    | succ j =>
      rw [show o + (j + 1) = (o + 1) + j by omega, ih _ _ _ (by omega) (by simp; omega)]
      simp
theorem own_setAll {e sz G n cap : Nat} (us : List Value) : ∀ {base : Nat} {w : World} {cells : List Value} (o : Nat), w.ownsRow base e sz (.slice (some ⟨G, 0, none⟩) n cap) n cells → (setAll w G o us).ownsRow base e sz (.slice (some ⟨G, 0, none⟩) n cap) n (setL cells o us) := by
  induction us with
  | nil => intro base w cells o h; exact h
  | cons u r ih => intro base w cells o h; exact ih (o + 1) (World.ownsRow.stored h o u).1
theorem below_setAll {B G : Nat} (us : List Value) (hG : B ≤ G) : ∀ {a w : World} (o : Nat), Below B a w → Below B a (setAll w G o us) := by
  induction us with
  | nil => intro a w o h; exact h
  | cons u r ih => intro a w o h; exact ih (o + 1) (h.setCell (p := ⟨G, o, none⟩) hG u)
theorem setAll_other {G b : Nat} (us : List Value) (hne : b ≠ G) : ∀ (w : World) (o : Nat), (setAll w G o us).heap[b]? = w.heap[b]? := by
  induction us with
  | nil => intro w o; rfl
  | cons u r ih => intro w o; rw [setAll, ih, Below.heap_setCell _ _ _ _ hne]
theorem setAll_size {G : Nat} (us : List Value) : ∀ (w : World) (o : Nat), (setAll w G o us).heap.size = w.heap.size := by
  induction us with
  | nil => intro w o; rfl
  | cons u r ih => intro w o; rw [setAll, ih]; simp [World.setCell]

/-! ### rows of one's own with their elements -/
def Els {α : Type} (sz : Nat) (K : α → List Value → Prop) (cells : List Value) (xs : List α) (k : Nat) : Prop :=
  ∀ i (h : i < xs.length), i < k → ∃ cs, K xs[i] cs ∧ cs.length = sz ∧ ∀ j, j < sz → cells[i * sz + j]? = cs[j]?
def Own {α : Type} (lo e sz : Nat) (K : World → α → List Value → Prop) (w : World) (v : Value) (xs : List α) : Prop :=
  ∃ cells, w.ownsRow lo e sz v xs.length cells ∧ Els sz (K w) cells xs xs.length
theorem Els.imp {α : Type} {sz : Nat} {K K' : α → List Value → Prop} {cells : List Value} {xs : List α} {k : Nat} (h : Els sz K cells xs k) (hk : ∀ x cs, K x cs → K' x cs) : Els sz K' cells xs k :=
  fun i hi hik => by obtain ⟨cs, h1, h2⟩ := h i hi hik; exact ⟨cs, hk _ _ h1, h2⟩
theorem Els.set {α : Type} {sz : Nat} {K : α → List Value → Prop} {cells : List Value} {xs : List α} {k : Nat} (h : Els sz K cells xs k) (hk : k < xs.length) (us : List Value) (hu : us.length = sz) (hK : K xs[k] us) (hl : cells.length = xs.length * sz) : Els sz K (setL cells (k * sz) us) xs (k + 1) := by
  intro i hi hik
  by_cases e : i = k
  · subst e
    refine ⟨us, hK, hu, fun j hj => setL_in us cells _ j (by omega) ?_⟩
    have : (i + 1) * sz ≤ xs.length * sz := Nat.mul_le_mul_right _ (by omega)
    rw [Nat.add_mul] at this
    omega
  · obtain ⟨cs, h1, h2, h3⟩ := h i hi (by omega)
    refine ⟨cs, h1, h2, fun j hj => ?_⟩
    have : (i + 1) * sz ≤ k * sz := Nat.mul_le_mul_right _ (by omega)
    rw [Nat.add_mul] at this
    rw [setL_out us cells _ _ (by omega)]
    exact h3 j hj
theorem Own.mv {α : Type} {lo e sz : Nat} {K : World → α → List Value → Prop} [KM K] {w w' : World} {v : Value} {xs : List α} (h : Own lo e sz K w v xs) (hb : Below w.heap.size w w') : Own lo e sz K w' v xs := by
  obtain ⟨cells, h1, h2⟩ := h
  exact ⟨cells, own_mv h1 hb, h2.imp fun _ _ hk => KM.mv hk hb⟩
theorem Own.rd {α : Type} {L lo e sz : Nat} {K K' : World → α → List Value → Prop} {w : World} {v : Value} {xs : List α} (h : Own lo e sz K w v xs) (hk : ∀ x cs, K w x cs → K' w x cs) (hL : xs.length ≤ L) : Rd L sz K' w v xs := by
  obtain ⟨cells, h1, h2⟩ := h
  obtain ⟨A, c, rfl, hc, hl, hz, hat⟩ := own_shape h1
  refine ⟨A, c, rfl, hc, hL, hz, fun h0 => ?_⟩
  obtain ⟨b, rfl, hb, hat⟩ := hat h0
  refine ⟨b, 0, rfl, hb, fun i hi => ?_⟩
  obtain ⟨cs, k1, k2, k3⟩ := h2 i hi hi
  refine ⟨cs, hk _ _ k1, k2, fun j hj => ?_⟩
  rw [show 0 + i * sz + j = i * sz + j by omega]
  refine hat _ _ ?_
  rw [k3 j (by omega)]
  exact List.getElem?_eq_getElem hj
theorem Own.ints {lo : Nat} {w : World} {v : Value} {xs : List Int} (h : w.ownsRow lo 2 1 v xs.length (xs.map (Value.int .i64))) : Own lo 2 1 KInt w v xs :=
  ⟨_, h, fun i hi _ => ⟨_, rfl, rfl, fun j hj => by
    obtain rfl : j = 0 := by omega
    simp [hi]⟩⟩
theorem Own.lower {α : Type} {lo lo' e sz : Nat} {K K' : World → α → List Value → Prop} {w : World} {v : Value} {xs : List α} (h : Own lo e sz K w v xs) (hl : lo' ≤ lo) (hk : ∀ x cs, K w x cs → K' w x cs) : Own lo' e sz K' w v xs := by
  obtain ⟨cells, h1, h2⟩ := h
  exact ⟨cells, own_lower h1 hl, h2.imp hk⟩
theorem Els.nil {α : Type} (sz : Nat) (K : α → List Value → Prop) (cells : List Value) (xs : List α) : Els sz K cells xs 0 := fun i _ h => absurd h (Nat.not_lt_zero i)
end Go.Proofs.YtdnbiohohbnhgaaDoor
