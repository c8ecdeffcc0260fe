import Derived.Test.YtkcgejbnhpccdaaGreatT01
import Derived.Deep.Slices
import Derived.ProofKit
set_option linter.unusedSimpArgs false
set_option linter.unusedVariables false
namespace Go.Proofs.YtkcgejbnhpccdaaGreat
open Go.RowKit
def setL (cells : List Value) : Nat → List Value → List Value
  | _, [] => cells
  | o, u :: r => setL (cells.set o u) (o + 1) r
theorem setL_out (us : List Value) : ∀ (cells : List Value) (o i : Nat), i < o ∨ o + us.length ≤ i → (setL cells o us)[i]? = cells[i]? := by
  induction us with
  | nil => intro cells o i _; rfl
  | cons u r ih =>
    intro cells o i h
    simp only [List.length_cons] at h
    rw [setL, ih _ _ _ (by omega), List.getElem?_set_ne (by omega)]
theorem setL_in (us : List Value) : ∀ (cells : List Value) (o j : Nat), j < us.length → o + us.length ≤ cells.length → (setL cells o us)[o + j]? = us[j]? := by
  induction us with
  | nil => intro cells o j h; simp at h
  | cons u r ih =>
    intro cells o j h hl
    simp only [List.length_cons] at h hl
    rw [setL]
    cases j with
    | zero =>
      rw [setL_out _ _ _ _ (by omega), Nat.add_zero, List.getElem?_set_self (by omega)]
      rfl
    | succ j =>
      rw [show o + (j + 1) = (o + 1) + j by omega, ih _ _ _ (by omega) (by simp; omega)]
      simp
def Els {α : Type} (sz : Nat) (K : α → List Value → Prop) (cells : List Value) (xs : List α) (k : Nat) : Prop :=
  ∀ i (h : i < xs.length), i < k → ∃ cs, K xs[i] cs ∧ cs.length = sz ∧ ∀ j, j < sz → cells[i * sz + j]? = cs[j]?
def Own {α : Type} (lo e sz : Nat) (K : World → α → List Value → Prop) (w : World) (v : Value) (xs : List α) : Prop :=
  ∃ cells, w.ownsRow lo e sz v xs.length cells ∧ Els sz (K w) cells xs xs.length
theorem Els.imp {α : Type} {sz : Nat} {K K' : α → List Value → Prop} {cells : List Value} {xs : List α} {k : Nat} (h : Els sz K cells xs k) (hk : ∀ x cs, K x cs → K' x cs) : Els sz K' cells xs k :=
  fun i hi hik => by obtain ⟨cs, h1, h2⟩ := h i hi hik; exact ⟨cs, hk _ _ h1, h2⟩
theorem Els.set {α : Type} {sz : Nat} {K : α → List Value → Prop} {cells : List Value} {xs : List α} {k : Nat} (h : Els sz K cells xs k) (hk : k < xs.length) (us : List Value) (hu : us.length = sz) (hK : K xs[k] us) (hl : cells.length = xs.length * sz) : Els sz K (setL cells (k * sz) us) xs (k + 1) := by
  intro i hi hik
  by_cases e : i = k
  · subst e
    refine ⟨us, hK, hu, fun j hj => setL_in us cells _ j (by omega) ?_⟩
    have : (i + 1) * sz ≤ xs.length * sz := Nat.mul_le_mul_right _ (by omega)
    rw [Nat.add_mul] at this
    omega
  · obtain ⟨cs, h1, h2, h3⟩ := h i hi (by omega)
    refine ⟨cs, h1, h2, fun j hj => ?_⟩
    have : (i + 1) * sz ≤ k * sz := Nat.mul_le_mul_right _ (by omega)
    rw [Nat.add_mul] at this
    rw [setL_out us cells _ _ (by omega)]
    exact h3 j hj
theorem Own.mv {α : Type} {lo e sz : Nat} {K : World → α → List Value → Prop} [KM K] {w w' : World} {v : Value} {xs : List α} (h : Own lo e sz K w v xs) (hb : Below w.heap.size w w') : Own lo e sz K w' v xs := by
  obtain ⟨cells, h1, h2⟩ := h
  exact ⟨cells, own_mv h1 hb, h2.imp fun _ _ hk => KM.mv hk hb⟩
theorem Own.rd {α : Type} {L lo e sz : Nat} {K K' : World → α → List Value → Prop} {w : World} {v : Value} {xs : List α} (h : Own lo e sz K w v xs) (hk : ∀ x cs, K w x cs → K' w x cs) (hL : xs.length ≤ L) : Rd L sz K' w v xs := by
  obtain ⟨cells, h1, h2⟩ := h
  obtain ⟨A, c, rfl, hc, hl, hz, hat⟩ := own_shape h1
  refine ⟨A, c, rfl, hc, hL, hz, fun h0 => ?_⟩
  obtain ⟨b, rfl, hb, hat⟩ := hat h0
  refine ⟨b, 0, rfl, hb, fun i hi => ?_⟩
  obtain ⟨cs, k1, k2, k3⟩ := h2 i hi hi
  refine ⟨cs, hk _ _ k1, k2, fun j hj => ?_⟩
  rw [show 0 + i * sz + j = i * sz + j by omega]
  refine hat _ _ ?_
  rw [k3 j (by omega)]
  exact List.getElem?_eq_getElem hj
theorem Own.ints {lo : Nat} {w : World} {v : Value} {xs : List Int} (h : w.ownsRow lo 2 1 v xs.length (xs.map (Value.int .i64))) : Own lo 2 1 KInt w v xs :=
  ⟨_, h, fun i hi _ => ⟨_, rfl, rfl, fun j hj => by
    obtain rfl : j = 0 := by omega
    simp [hi]⟩⟩
theorem Els.nil {α : Type} (sz : Nat) (K : α → List Value → Prop) (cells : List Value) (xs : List α) : Els sz K cells xs 0 := fun i _ h => absurd h (Nat.not_lt_zero i)
theorem row_facts {w : World} {b e : Nat} {arr : Array Value} (h : w.heap[b]? = some (.cells arr e (0, 0))) : (∀ o, w.cell? ⟨b, o, none⟩ = arr[o]?) ∧ ∀ o, w.frozen? ⟨b, o, none⟩ = false :=
  ⟨fun o => by simp [World.cell?, h], fun o => by simp [World.frozen?, h]⟩
theorem heap_new (w : World) (arr : Array Value) (e b : Nat) (hb : b = w.heap.size) : (w.alloc (.cells arr e)).heap[b]? = some (.cells arr e (0, 0)) := by
  subst hb
  show (w.heap.push _)[w.heap.size]? = _
  simp
theorem heap_old {w : World} {o : Obj} {b : Nat} {x : Option Obj} (h : w.heap[b]? = x) (hb : b < w.heap.size) : (w.alloc o).heap[b]? = x := (Below.heap_alloc w o b hb).trans h
theorem heap_set {w : World} {b e j : Nat} {arr : Array Value} {u : Value} (h : w.heap[b]? = some (.cells arr e (0, 0))) : (w.setCell ⟨b, j, none⟩ u).heap[b]? = some (.cells (arr.setIfInBounds j u) e (0, 0)) := heap_setCell_same w b j arr e u h
theorem heap_off {w : World} {b g j : Nat} {u : Value} {x : Option Obj} (h : w.heap[b]? = x) (hne : b ≠ g) : (w.setCell ⟨g, j, none⟩ u).heap[b]? = x := (Below.heap_setCell w ⟨g, j, none⟩ u b hne).trans h
structure Abv (lo : Nat) (w w' : World) : Prop where
  size : w.heap.size ≤ w'.heap.size
  block : ∀ b, lo ≤ b → b < w.heap.size → w'.heap[b]? = w.heap[b]?
theorem Abv.refl (lo : Nat) (w : World) : Abv lo w w := ⟨Nat.le_refl _, fun _ _ _ => rfl⟩
theorem Abv.trans {lo : Nat} {a b c : World} (h : Abv lo a b) (k : Abv lo b c) : Abv lo a c := ⟨Nat.le_trans h.size k.size, fun i h1 h2 => (k.block i h1 (Nat.lt_of_lt_of_le h2 h.size)).trans (h.block i h1 h2)⟩
theorem Abv.setCell {lo : Nat} {a w : World} (h : Abv lo a w) {p : Addr} (hp : p.block < lo) (u : Value) : Abv lo a (w.setCell p u) :=
  h.trans ⟨by simp [World.setCell], fun b h1 _ => Below.heap_setCell w p u b (by omega)⟩
theorem Abv.below {lo : Nat} {a w w' : World} (h : Abv lo a w) (hb : Below w.heap.size w w') : Abv lo a w' := h.trans ⟨hb.size, fun b _ h2 => hb.block b h2⟩
theorem Abv.alloc {lo : Nat} {a w : World} (h : Abv lo a w) (o : Obj) : Abv lo a (w.alloc o) := h.below ((Below.refl _ _).al (Nat.le_refl _) o)
theorem own_abv {lo base e sz n : Nat} {w w' : World} {v : Value} {cs : List Value} (h : w.ownsRow base e sz v n cs) (hl : lo ≤ base) (hb : Abv lo w w') : w'.ownsRow base e sz v n cs := by
  refine ⟨h.1, ?_⟩
  rcases h.2 with h' | ⟨g, cap, cur, hv, h1, h2, h3⟩
  · exact .inl h'
  · exact .inr ⟨g, cap, cur, hv, h1, (hb.block g (by omega) (Array.getElem?_eq_some_iff.1 h2).1).trans h2, h3⟩
def OInt (_ : Nat) (_ : World) (x : Int) (cs : List Value) : Prop := cs = [.int .i64 x]
abbrev OwI (lo : Nat) (w : World) (v : Value) (xs : List Int) : Prop := Own lo 2 1 (OInt lo) w v xs
theorem OwI.of {lo : Nat} {w : World} {v : Value} {xs : List Int} (h : w.ownsRow lo 2 1 v xs.length (xs.map (Value.int .i64))) : OwI lo w v xs := Own.ints h
def sub (left : Int) (n : Nat) : Int := if left < n then -1 else left - n
abbrev lw : Nat := 9223372036854775807
theorem Rd.nar {α : Type} {L L' sz : Nat} {K K' : World → α → List Value → Prop} {w : World} {v : Value} {xs : List α} (h : Rd L sz K w v xs) (hl : xs.length ≤ L') (hk : ∀ x, x ∈ xs → ∀ cs, K w x cs → K' w x cs) : Rd L' sz K' w v xs := by
  obtain ⟨A, c, rfl, h1, h2, hz, h3⟩ := h
  refine ⟨A, c, rfl, h1, hl, hz, fun h0 => ?_⟩
  obtain ⟨b, off, rfl, hlt, hat⟩ := h3 h0
  refine ⟨b, off, rfl, hlt, fun i hi => ?_⟩
  obtain ⟨cs, hk1, hl, hc⟩ := hat i hi
  exact ⟨cs, hk _ (List.getElem_mem hi) _ hk1, hl, hc⟩
theorem OwI.rd {lo : Nat} {w : World} {v : Value} {xs : List Int} (h : OwI lo w v xs) (hl : xs.length ≤ lm) : RI lm w v xs := Own.rd h (fun _ _ hk => hk) hl
open Go.RowKit Go.Deep Go.ChangeShapes Go.WideShapes
section
variable {H : Type} {enc : TypeId × Value → H}
def Op {α : Type} (enc : TypeId × Value → H) (W : World) (t sz : Nat) (K : World → α → List Value → Prop) : Prop := ∀ (n : Nat) (cs : List Value) (y : DataW H × List MemPlace), DataW.trod enc Tryz.prog W 0 (fun _ => true) true n t cs = some y → ∃ x, K W x cs ∧ cs.length = sz
theorem op_slice {α : Type} [Inhabited α] {W : World} {t e sz : Nat} {K : World → α → List Value → Prop} (ht : Tryz.prog.underlying t = some (.slice e)) (hc : Tryz.prog.cellsOf e = sz) (hz : 0 < sz) (hK : Op enc W e sz K) {n : Nat} {cs : List Value} {y : DataW H × List MemPlace} (h : DataW.trod enc Tryz.prog W 0 (fun _ => true) true n t cs = some y) : ∃ v xs, cs = [v] ∧ Rd lw sz K W v xs := by
  rcases open_slice ht h with ⟨rfl, _⟩ | ⟨a, len, cap, m, n', D, Pl, rfl, _, hl, hm, hmm, _, hx⟩
  · exact ⟨_, [], rfl, none, 0, rfl, Nat.le_refl _, Nat.zero_le _, fun _ => rfl, fun h => absurd h (Nat.lt_irrefl _)⟩
  have hlm : len ≤ m := by rw [hmm]; simpa using hl
  clear hmm
  have each : ∀ i, i < m → ∃ x cs', K W x cs' ∧ cs'.length = sz ∧ ∀ j, j < sz → W.cell? ((a.add (i * sz)).add j) = cs'[j]? := fun i hi => by
    obtain ⟨cs', h1, h2⟩ := hx i hi
    rw [hc] at h1
    obtain ⟨_, hlen, hcell⟩ := World.cells?_some h1
    obtain ⟨x, h3, _⟩ := hK _ _ _ h2
    exact ⟨x, cs', h3, hlen, hcell⟩
  obtain ⟨f, hf⟩ := choose_lt each
  refine ⟨_, (List.range len).map f, rfl, some a, cap, by simp, by simpa using hl, by simp; unfold maxLen at hm; show len ≤ 9223372036854775807; omega, (by simp), fun h0 => ?_⟩
  have h0' : 0 < len := by simpa using h0
  obtain ⟨cs0, _, hl0, hc0⟩ := hf 0 (by omega)
  have h00 := hc0 0 hz
  rw [List.getElem?_eq_getElem (by omega)] at h00
  have hsp : a.spot = none := by simpa [Addr.add] using World.cell?_spot h00
  obtain ⟨b, off, sp⟩ := a
  cases hsp
  have hb : b < W.heap.size := by
    unfold World.cell? at h00
    split at h00
    · rename_i hh; rw [add_plain, add_plain] at hh; exact (Array.getElem?_eq_some_iff.1 hh).1
    · cases h00
  refine ⟨b, off, rfl, hb, fun i hi => ?_⟩
  have hi' : i < len := by simpa using hi
  obtain ⟨cs', h1, h2, h3⟩ := hf i (by omega)
  refine ⟨cs', by simpa using h1, h2, fun j hj => ?_⟩
  have := h3 j (by omega)
  rw [List.getElem?_eq_getElem hj] at this
  rw [add_plain, add_plain] at this
  exact this
end
end Go.Proofs.YtkcgejbnhpccdaaGreat
