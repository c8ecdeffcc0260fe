/- What holds of memory in which numbers are changed for numbers. No conditions. -/
import Derived.Test.YtdnbiohohbnhgaaDoorL2
set_option linter.unusedSimpArgs false
set_option linter.unusedVariables false
namespace Go.Proofs.YtdnbiohohbnhgaaDoor
open Go.RowKit
/-! ### numbers changed for numbers in some blocks -/
structure Chg (lo hi : Nat) (w w' : World) : Prop where
  below : Below lo w w'
  out : ∀ (b : Nat), b < w.heap.size → b < lo ∨ hi ≤ b → w'.heap[b]? = w.heap[b]?
  cell : ∀ (b : Nat) (arr : Array Value) (e : TypeId), w.heap[b]? = some (Obj.cells arr e (0, 0)) → ∃ arr' : Array Value, w'.heap[b]? = some (.cells arr' e (0, 0)) ∧ ∀ (o : Nat) (u : Value), arr[o]? = some u → arr'[o]? = some u ∨ ((∃ i, u = .int .i64 i) ∧ ∃ i, arr'[o]? = some (.int .i64 i))
theorem Chg.size {lo hi : Nat} {w w' : World} (h : Chg lo hi w w') : w.heap.size ≤ w'.heap.size := h.below.size
theorem Chg.refl (lo hi : Nat) (w : World) : Chg lo hi w w := ⟨Below.refl _ _, fun _ _ _ => rfl, fun _ arr _ h => ⟨arr, h, fun _ _ h => .inl h⟩⟩
theorem Chg.trans {lo hi : Nat} {a b c : World} (h : Chg lo hi a b) (k : Chg lo hi b c) : Chg lo hi a c := by
  refine ⟨h.below.trans k.below, fun i h1 h2 => (k.out i (Nat.lt_of_lt_of_le h1 h.size) h2).trans (h.out i h1 h2), fun i arr e h1 => ?_⟩
  obtain ⟨arr1, h2, h3⟩ := h.cell i arr e h1
  obtain ⟨arr2, h4, h5⟩ := k.cell i arr1 e h2
  refine ⟨arr2, h4, fun o u hu => ?_⟩
  rcases h3 o u hu with h6 | ⟨h6, i', h7⟩
  · exact h5 o u h6
  · rcases h5 o _ h7 with h8 | ⟨-, h8⟩
    · exact .inr ⟨h6, i', h8⟩
    · exact .inr ⟨h6, h8⟩
theorem Chg.of_below {lo hi : Nat} {w w' : World} (hlo : lo ≤ w.heap.size) (h : Below w.heap.size w w') : Chg lo hi w w' :=
  ⟨h.mono hlo, fun b h1 _ => h.block b h1, fun b arr e h1 => ⟨arr, (h.block b (Array.getElem?_eq_some_iff.1 h1).1).trans h1, fun _ _ h => .inl h⟩⟩
theorem Chg.alloc {lo hi : Nat} {a w : World} (h : Chg lo hi a w) (hlo : lo ≤ w.heap.size) (o : Obj) : Chg lo hi a (w.alloc o) := h.trans (.of_below hlo ((Below.refl _ _).al (Nat.le_refl _) o))
theorem Chg.drew {lo hi : Nat} {a w : World} (h : Chg lo hi a w) : Chg lo hi a w.drew := ⟨h.below.drew, h.out, h.cell⟩
theorem Chg.setCell {lo hi : Nat} {w : World} {b e o : Nat} {arr : Array Value} {i i' : Int} (h : w.heap[b]? = some (.cells arr e (0, 0))) (hb : lo ≤ b ∧ b < hi) (ho : arr[o]? = some (.int .i64 i)) : Chg lo hi w (w.setCell ⟨b, o, none⟩ (.int .i64 i')) := by
  refine ⟨(Below.refl _ _).setCell (p := ⟨b, o, none⟩) hb.1 _, fun g _ hg => Below.heap_setCell w ⟨b, o, none⟩ _ g (by simp; omega), fun g arr1 e1 h1 => ?_⟩
  by_cases hg : g = b
  · subst hg
    obtain ⟨rfl, rfl⟩ : arr1 = arr ∧ e1 = e := by rw [h] at h1; cases h1; exact ⟨rfl, rfl⟩
    refine ⟨_, heap_set h, fun j u hu => ?_⟩
    by_cases hj : j = o
    · subst hj
      rw [ho] at hu
      cases hu
      exact .inr ⟨⟨_, rfl⟩, _, by rw [Array.getElem?_setIfInBounds]; simp [(Array.getElem?_eq_some_iff.1 ho).1]; rfl⟩
    · exact .inl (by rw [Array.getElem?_setIfInBounds, if_neg (fun h => hj h.symm)]; exact hu)
  · exact ⟨arr1, heap_off h1 hg, fun _ _ h => .inl h⟩
/-- Outside of them all is as it was. -/
theorem Chg.abv {lo hi : Nat} {w w' : World} (h : Chg lo hi w w') : Abv hi w w' := ⟨h.size, fun b h1 h2 => h.out b h2 (.inr h1)⟩
/-- A row whose numbers nobody knows. -/
def Sl {α : Type} (lo hi sz : Nat) (K : World → α → List Value → Prop) (w : World) (v : Value) (xs : List α) : Prop :=
  ∃ A c, v = .slice A xs.length c ∧ xs.length ≤ c ∧ xs.length ≤ lm ∧ (0 < xs.length → ∃ (b : Nat) (arr : Array Value) (e : TypeId), A = some ⟨b, 0, none⟩ ∧ lo ≤ b ∧ b < hi ∧ w.heap[b]? = some (.cells arr e (0, 0)) ∧ ∀ i (h : i < xs.length), ∃ cs, K w xs[i] cs ∧ cs.length = sz ∧ ∀ j u, cs[j]? = some u → arr[i * sz + j]? = some u)
/-- What a kind says stays when numbers change for numbers. -/
class KC {α : Type} (K : World → α → List Value → Prop) : Prop where
  mv : ∀ {w w' : World} {lo hi : Nat} {x : α} {cs cs' : List Value}, K w x cs → Chg lo hi w w' → cs'.length = cs.length → (∀ (j : Nat) (u : Value), cs[j]? = some u → cs'[j]? = some u ∨ ((∃ i, u = .int .i64 i) ∧ ∃ i, cs'[j]? = some (.int .i64 i))) → K w' x cs'
theorem Sl.mv {α : Type} {lo hi sz l' h' : Nat} {K : World → α → List Value → Prop} [KC K] {w w' : World} {v : Value} {xs : List α} (h : Sl lo hi sz K w v xs) (hc : Chg l' h' w w') : Sl lo hi sz K w' v xs := by
  obtain ⟨A, c, rfl, hcc, hl, h1⟩ := h
  refine ⟨A, c, rfl, hcc, hl, fun h0 => ?_⟩
  obtain ⟨b, arr, e, rfl, hb1, hb2, hh, hat⟩ := h1 h0
  obtain ⟨arr', hh', har⟩ := hc.cell b arr e hh
  refine ⟨b, arr', e, rfl, hb1, hb2, hh', fun i hi => ?_⟩
  obtain ⟨cs, hk, hcl, hcs⟩ := hat i hi
  have hget : ∀ j, j < sz → ∃ u, arr'[i * sz + j]? = some u ∧ ∀ q, cs[j]? = some q → u = q ∨ ((∃ i, q = .int .i64 i) ∧ ∃ i, u = .int .i64 i) := fun j hj => by
    have hq : cs[j]? = some cs[j] := List.getElem?_eq_getElem (by omega)
    rcases har _ _ (hcs j _ hq) with h2 | ⟨h2, i', h3⟩
    · exact ⟨_, h2, fun q hq' => by rw [hq] at hq'; cases hq'; exact .inl rfl⟩
    · exact ⟨_, h3, fun q hq' => by rw [hq] at hq'; cases hq'; exact .inr ⟨h2, _, rfl⟩⟩
  refine ⟨(List.range sz).map fun j => (arr'[i * sz + j]?).getD (.bool false), KC.mv hk hc (by simp [hcl]) (fun j u hu => ?_), by simp, fun j u hu => ?_⟩
  · have hj : j < sz := by have := (List.getElem?_eq_some_iff.1 hu).1; omega
    obtain ⟨u', h2, h3⟩ := hget j hj
    have e : ((List.range sz).map fun j => (arr'[i * sz + j]?).getD (.bool false))[j]? = some u' := by simp [hj, h2]
    rw [e]
    rcases h3 u hu with rfl | ⟨h4, i', rfl⟩
    · exact .inl rfl
    · exact .inr ⟨h4, _, rfl⟩
  · have hj : j < sz := by have := (List.getElem?_eq_some_iff.1 hu).1; simpa using this
    obtain ⟨u', h2, h3⟩ := hget j hj
    simp [hj, h2] at hu
    rw [h2, hu]
theorem Sl.sh {α : Type} {lo hi sz : Nat} {K : World → α → List Value → Prop} {w : World} {v : Value} {xs : List α} (h : Sl lo hi sz K w v xs) : ∃ A c, v = .slice A xs.length c ∧ xs.length ≤ c ∧ xs.length ≤ 1048576 ∧ Hd (Sl lo hi sz K w v xs) := by
  have h' := h
  obtain ⟨A, c, rfl, h1, h2, _⟩ := h
  exact ⟨A, c, rfl, h1, h2, ⟨h'⟩⟩
theorem Sl.at_ {α : Type} {lo hi sz : Nat} {K : World → α → List Value → Prop} {w : World} {A : Option Addr} {n c : Nat} {xs : List α} (h : Sl lo hi sz K w (.slice A n c) xs) (k : Nat) (hk : k < xs.length) :
    ∃ (b : Nat) (arr : Array Value) (e : TypeId) (cs : List Value), A = some ⟨b, 0, none⟩ ∧ lo ≤ b ∧ b < hi ∧ w.heap[b]? = some (.cells arr e (0, 0)) ∧ K w xs[k] cs ∧ cs.length = sz ∧ ∀ j u, cs[j]? = some u → arr[k * sz + j]? = some u := by
  obtain ⟨A', c', hv, hcc, hl, h1⟩ := h
  cases hv
  obtain ⟨b, arr, e, rfl, hb1, hb2, hh, hat⟩ := h1 (by omega)
  obtain ⟨cs, h2, h3, h4⟩ := hat k hk
  exact ⟨b, arr, e, cs, rfl, hb1, hb2, hh, h2, h3, h4⟩
theorem Own.sl {α : Type} {lo e sz : Nat} {K : Nat → World → α → List Value → Prop} {K' : World → α → List Value → Prop} {w : World} {v : Value} {xs : List α} (h : Own lo e sz (K lo) w v xs) (hl : xs.length ≤ lm) (hk : ∀ x, x ∈ xs → ∀ cs, K lo w x cs → K' w x cs) : Sl lo w.heap.size sz K' w v xs := by
  obtain ⟨cells, h1, h2⟩ := h
  obtain ⟨h3, h4⟩ := h1
  rcases h4 with ⟨rfl, h5⟩ | ⟨g, cap, cur, rfl, h5, h6, h7, h8, h9, h10⟩
  · exact ⟨none, 0, by rw [h5], by omega, hl, fun h => absurd h (by omega)⟩
  · refine ⟨_, cap, rfl, h7, hl, fun _ => ⟨g, cur, e, rfl, h5, (Array.getElem?_eq_some_iff.1 h6).1, h6, fun i hi => ?_⟩⟩
    obtain ⟨cs, k1, k2, k3⟩ := h2 i hi hi
    refine ⟨cs, hk _ (List.getElem_mem hi) _ k1, k2, fun j u hu => ?_⟩
    have hj : j < sz := by have := (List.getElem?_eq_some_iff.1 hu).1; omega
    rw [← k3 j hj, ← h10] at hu
    have : (i + 1) * sz ≤ xs.length * sz := Nat.mul_le_mul_right _ (by omega)
    rw [Nat.add_mul] at this
    rw [List.getElem?_take_of_lt (by omega)] at hu
    simpa using hu
def SInt (_ : World) (_ : Int) (cs : List Value) : Prop := ∃ i, cs = [.int .i64 i]
theorem int1 {cs' : List Value} {u : Value} {j : Nat} (h : cs'[j]? = some u ∨ ((∃ i, u = .int .i64 i) ∧ ∃ i, cs'[j]? = some (.int .i64 i))) (hu : ∃ i, u = .int .i64 i) : ∃ i, cs'[j]? = some (.int .i64 i) := by
  rcases h with h | h
  · obtain ⟨i, rfl⟩ := hu; exact ⟨i, h⟩
  · exact h.2
theorem fix1 {cs' : List Value} {u : Value} {j : Nat} (h : cs'[j]? = some u ∨ ((∃ i, u = .int .i64 i) ∧ ∃ i, cs'[j]? = some (.int .i64 i))) (hu : ∀ i, u ≠ .int .i64 i) : cs'[j]? = some u := by
  rcases h with h | ⟨⟨i, h⟩, _⟩
  · exact h
  · exact absurd h (hu i)
theorem cs1 {cs : List Value} {a : Value} (h : cs.length = 1) (h0 : cs[0]? = some a) : cs = [a] := by
  match cs, h with
  | [x], _ => simp at h0; rw [h0]
instance : KC SInt := ⟨fun ⟨i, h⟩ _ hl hc => by
  subst h
  obtain ⟨i', h'⟩ := int1 (hc 0 _ rfl) ⟨_, rfl⟩
  exact ⟨i', cs1 hl h'⟩⟩
abbrev SlI (lo hi : Nat) := Sl lo hi 1 SInt
def SPhi (lo hi : Nat) (w : World) (x : XPhi) (cs : List Value) : Prop := ∃ i v, cs = [.int .i64 i, v] ∧ SlI lo hi w v x.ins
theorem Sl.ne {α : Type} {lo hi sz : Nat} {K : World → α → List Value → Prop} {w : World} {v : Value} {xs : List α} (h : Sl lo hi sz K w v xs) (i : Int) : v ≠ .int .i64 i := by
  obtain ⟨A, c, rfl, _⟩ := h; simp
theorem cs2 {cs : List Value} {a b : Value} (h : cs.length = 2) (h0 : cs[0]? = some a) (h1 : cs[1]? = some b) : cs = [a, b] := by
  match cs, h with
  | [x, y], _ => simp at h0 h1; rw [h0, h1]
theorem cs6 {cs : List Value} {a b c d e f : Value} (h : cs.length = 6) (h0 : cs[0]? = some a) (h1 : cs[1]? = some b) (h2 : cs[2]? = some c) (h3 : cs[3]? = some d) (h4 : cs[4]? = some e) (h5 : cs[5]? = some f) : cs = [a, b, c, d, e, f] := by
  match cs, h with
  | [x1, x2, x3, x4, x5, x6], _ => simp at h0 h1 h2 h3 h4 h5; rw [h0, h1, h2, h3, h4, h5]
theorem cs7 {cs : List Value} {a b c d e f g : Value} (h : cs.length = 7) (h0 : cs[0]? = some a) (h1 : cs[1]? = some b) (h2 : cs[2]? = some c) (h3 : cs[3]? = some d) (h4 : cs[4]? = some e) (h5 : cs[5]? = some f) (h6 : cs[6]? = some g) : cs = [a, b, c, d, e, f, g] := by
  match cs, h with
  | [x1, x2, x3, x4, x5, x6, x7], _ => simp at h0 h1 h2 h3 h4 h5 h6; rw [h0, h1, h2, h3, h4, h5, h6]
instance {lo hi : Nat} : KC (SPhi lo hi) := ⟨fun ⟨i, v, h, r⟩ hch hl hc => by
  subst h
  obtain ⟨i', h0⟩ := int1 (hc 0 _ rfl) ⟨_, rfl⟩
  exact ⟨i', v, cs2 hl h0 (fix1 (hc 1 _ rfl) r.ne), r.mv hch⟩⟩
abbrev SlPhi (lo hi : Nat) := Sl lo hi 2 (SPhi lo hi)
def SInst (lo hi : Nat) (w : World) (x : XInst) (cs : List Value) : Prop := ∃ a b c d e f v, cs = [.int .i64 a, .int .i64 b, .int .i64 c, .int .i64 d, .int .i64 e, .int .i64 f, v] ∧ SlI lo hi w v x.args
instance {lo hi : Nat} : KC (SInst lo hi) := ⟨fun ⟨a, b, c, d, e, f, v, h, r⟩ hch hl hc => by
  subst h
  obtain ⟨i0, h0⟩ := int1 (hc 0 _ rfl) ⟨_, rfl⟩
  obtain ⟨i1, h1⟩ := int1 (hc 1 _ rfl) ⟨_, rfl⟩
  obtain ⟨i2, h2⟩ := int1 (hc 2 _ rfl) ⟨_, rfl⟩
  obtain ⟨i3, h3⟩ := int1 (hc 3 _ rfl) ⟨_, rfl⟩
  obtain ⟨i4, h4⟩ := int1 (hc 4 _ rfl) ⟨_, rfl⟩
  obtain ⟨i5, h5⟩ := int1 (hc 5 _ rfl) ⟨_, rfl⟩
  exact ⟨i0, i1, i2, i3, i4, i5, v, cs7 hl h0 h1 h2 h3 h4 h5 (fix1 (hc 6 _ rfl) r.ne), r.mv hch⟩⟩
abbrev SlInst (lo hi : Nat) := Sl lo hi 7 (SInst lo hi)
def SBlock (lo hi : Nat) (w : World) (x : XBlock) (cs : List Value) : Prop := ∃ v v' a b c d, cs = [v, v', .int .i64 a, .int .i64 b, .int .i64 c, .int .i64 d] ∧ SlPhi lo hi w v x.phis ∧ SlInst lo hi w v' x.insts
instance {lo hi : Nat} : KC (SBlock lo hi) := ⟨fun ⟨v, v', a, b, c, d, h, r, s⟩ hch hl hc => by
  subst h
  obtain ⟨i2, h2⟩ := int1 (hc 2 _ rfl) ⟨_, rfl⟩
  obtain ⟨i3, h3⟩ := int1 (hc 3 _ rfl) ⟨_, rfl⟩
  obtain ⟨i4, h4⟩ := int1 (hc 4 _ rfl) ⟨_, rfl⟩
  obtain ⟨i5, h5⟩ := int1 (hc 5 _ rfl) ⟨_, rfl⟩
  exact ⟨v, v', i2, i3, i4, i5, cs6 hl (fix1 (hc 0 _ rfl) r.ne) (fix1 (hc 1 _ rfl) s.ne) h2 h3 h4 h5, r.mv hch, s.mv hch⟩⟩
abbrev SlBlock (lo hi : Nat) := Sl lo hi 6 (SBlock lo hi)
def SFunc (lo hi : Nat) (w : World) (x : XFunc) (cs : List Value) : Prop := ∃ v i v', cs = [v, .int .i64 i, v'] ∧ SlI lo hi w v x.params ∧ SlBlock lo hi w v' x.blocks
/-! ### from what is owned -/
theorem OwI.sl {lo : Nat} {w : World} {v : Value} {xs : List Int} (h : OwI lo w v xs) (hl : xs.length ≤ lm) : SlI lo w.heap.size w v xs := Own.sl h hl fun _ _ _ hk => ⟨_, hk⟩
end Go.Proofs.YtdnbiohohbnhgaaDoor
