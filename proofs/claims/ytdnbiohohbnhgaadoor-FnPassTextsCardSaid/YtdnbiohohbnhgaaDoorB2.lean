/- Rows of the call's own that nothing turns, sizes of values, and what is owned is read. No conditions. -/
import Derived.Test.YtdnbiohohbnhgaaDoorB1
set_option linter.unusedSimpArgs false
set_option linter.unusedVariables false
namespace Go.Proofs.YtdnbiohohbnhgaaDoor
open Go.RowKit
theorem row_facts {w : World} {b e : Nat} {arr : Array Value} (h : w.heap[b]? = some (.cells arr e (0, 0))) : (∀ o, w.cell? ⟨b, o, none⟩ = arr[o]?) ∧ ∀ o, w.frozen? ⟨b, o, none⟩ = false :=
  ⟨fun o => by simp [World.cell?, h], fun o => by simp [World.frozen?, h]⟩
theorem heap_new (w : World) (arr : Array Value) (e b : Nat) (hb : b = w.heap.size) : (w.alloc (.cells arr e)).heap[b]? = some (.cells arr e (0, 0)) := by
  subst hb
  show (w.heap.push _)[w.heap.size]? = _
  simp
theorem heap_old {w : World} {o : Obj} {b : Nat} {x : Option Obj} (h : w.heap[b]? = x) (hb : b < w.heap.size) : (w.alloc o).heap[b]? = x := (Below.heap_alloc w o b hb).trans h
theorem heap_set {w : World} {b e j : Nat} {arr : Array Value} {u : Value} (h : w.heap[b]? = some (.cells arr e (0, 0))) : (w.setCell ⟨b, j, none⟩ u).heap[b]? = some (.cells (arr.setIfInBounds j u) e (0, 0)) := heap_setCell_same w b j arr e u h
theorem heap_off {w : World} {b g j : Nat} {u : Value} {x : Option Obj} (h : w.heap[b]? = x) (hne : b ≠ g) : (w.setCell ⟨g, j, none⟩ u).heap[b]? = x := (Below.heap_setCell w ⟨g, j, none⟩ u b hne).trans h
/-- From block lo on nothing turns. -/
structure Abv (lo : Nat) (w w' : World) : Prop where
  size : w.heap.size ≤ w'.heap.size
  block : ∀ b, lo ≤ b → b < w.heap.size → w'.heap[b]? = w.heap[b]?
theorem Abv.refl (lo : Nat) (w : World) : Abv lo w w := ⟨Nat.le_refl _, fun _ _ _ => rfl⟩
theorem Abv.trans {lo : Nat} {a b c : World} (h : Abv lo a b) (k : Abv lo b c) : Abv lo a c := ⟨Nat.le_trans h.size k.size, fun i h1 h2 => (k.block i h1 (Nat.lt_of_lt_of_le h2 h.size)).trans (h.block i h1 h2)⟩
theorem Abv.setCell {lo : Nat} {a w : World} (h : Abv lo a w) {p : Addr} (hp : p.block < lo) (u : Value) : Abv lo a (w.setCell p u) :=
  h.trans ⟨by simp [World.setCell], fun b h1 _ => Below.heap_setCell w p u b (by omega)⟩
theorem Abv.below {lo : Nat} {a w w' : World} (h : Abv lo a w) (hb : Below w.heap.size w w') : Abv lo a w' := h.trans ⟨hb.size, fun b _ h2 => hb.block b h2⟩
theorem Abv.alloc {lo : Nat} {a w : World} (h : Abv lo a w) (o : Obj) : Abv lo a (w.alloc o) := h.below ((Below.refl _ _).al (Nat.le_refl _) o)
theorem own_abv {lo base e sz n : Nat} {w w' : World} {v : Value} {cs : List Value} (h : w.ownsRow base e sz v n cs) (hl : lo ≤ base) (hb : Abv lo w w') : w'.ownsRow base e sz v n cs := by
  refine ⟨h.1, ?_⟩
  rcases h.2 with h' | ⟨g, cap, cur, hv, h1, h2, h3⟩
  · exact .inl h'
  · exact .inr ⟨g, cap, cur, hv, h1, (hb.block g (by omega) (Array.getElem?_eq_some_iff.1 h2).1).trans h2, h3⟩
/-- What a kind K lo says moves along Abv, and to a lower lo. -/
class KA {α : Type} (K : Nat → World → α → List Value → Prop) : Prop where
  mv : ∀ {lo : Nat} {w w' : World} {x : α} {cs : List Value}, K lo w x cs → Abv lo w w' → K lo w' x cs
  low : ∀ {lo lo' : Nat} {w : World} {x : α} {cs : List Value}, K lo w x cs → lo' ≤ lo → K lo' w x cs
theorem Own.abv {α : Type} {lo e sz : Nat} {K : Nat → World → α → List Value → Prop} [KA K] {w w' : World} {v : Value} {xs : List α} (h : Own lo e sz (K lo) w v xs) (hb : Abv lo w w') : Own lo e sz (K lo) w' v xs := by
  obtain ⟨cells, h1, h2⟩ := h
  exact ⟨cells, own_abv h1 (Nat.le_refl _) hb, h2.imp fun _ _ hk => KA.mv hk hb⟩
theorem Own.low {α : Type} {lo lo' e sz : Nat} {K : Nat → World → α → List Value → Prop} [KA K] {w : World} {v : Value} {xs : List α} (h : Own lo e sz (K lo) w v xs) (hl : lo' ≤ lo) : Own lo' e sz (K lo') w v xs :=
  h.lower hl fun _ _ hk => KA.low hk hl
def OInt (_ : Nat) (_ : World) (x : Int) (cs : List Value) : Prop := cs = [.int .i64 x]
instance : KA OInt := ⟨fun h _ => h, fun h _ => h⟩
abbrev OwI (lo : Nat) (w : World) (v : Value) (xs : List Int) : Prop := Own lo 2 1 (OInt lo) w v xs
theorem OwI.of {lo : Nat} {w : World} {v : Value} {xs : List Int} (h : w.ownsRow lo 2 1 v xs.length (xs.map (Value.int .i64))) : OwI lo w v xs := Own.ints h
/-! ### sizes -/
def sub (left : Int) (n : Nat) : Int := if left < n then -1 else left - n
theorem sub_cases (left : Int) (n : Nat) (h : 0 ≤ left) : (sub left n = -1 ∧ left < n) ∨ (sub left n = left - n ∧ 0 ≤ left - n ∧ (n : Int) ≤ left) := by unfold sub; split <;> omega
theorem sub_add (left : Int) (a b : Nat) (h : (a : Int) ≤ left) : sub (left - a) b = sub left (a + b) := by unfold sub; split <;> split <;> omega
theorem sub_lt (left : Int) (n : Nat) (h : left < n) : sub left n = -1 := by unfold sub; rw [if_pos h]
def wL {α : Type} (f : α → Nat) (l : List α) : Nat := l.length + (l.map f).sum
def wI (l : List Int) : Nat := l.length
def wPhi (p : XPhi) : Nat := p.ins.length
def wInst (i : XInst) : Nat := i.args.length
def wBlock (b : XBlock) : Nat := wL wPhi b.phis + wL wInst b.insts
def wFunc (f : XFunc) : Nat := f.params.length + wL wBlock f.blocks
theorem wL_snoc {α : Type} (f : α → Nat) (l : List α) (k : Nat) (h : k < l.length) : ((l.take (k + 1)).map f).sum = ((l.take k).map f).sum + f l[k] := by
  rw [List.take_succ_eq_append_getElem h, List.map_append, List.sum_append]; simp
theorem wL_le {α : Type} (f : α → Nat) (l : List α) (k : Nat) : ((l.take k).map f).sum ≤ (l.map f).sum := by
  have h : (l.map f).sum = ((l.take k ++ l.drop k).map f).sum := by rw [List.take_append_drop]
  rw [h, List.map_append, List.sum_append]; omega
theorem wL_mem {α : Type} (f : α → Nat) (l : List α) (x : α) (h : x ∈ l) : f x ≤ wL f l := by
  have : f x ≤ (l.map f).sum := by
    induction l with
    | nil => cases h
    | cons y r ih =>
      simp only [List.map_cons, List.sum_cons]
      rcases List.mem_cons.1 h with rfl | h
      · omega
      · have := ih h; omega
  unfold wL; omega
/-- Lengths as wide as memory lets them be. -/
abbrev lw : Nat := 9223372036854775807
theorem Rd.sw {α : Type} {sz : Nat} {K : World → α → List Value → Prop} {w : World} {v : Value} {xs : List α} (h : Rd lw sz K w v xs) : ∃ A c, v = .slice A xs.length c ∧ xs.length ≤ c ∧ xs.length ≤ 9223372036854775807 ∧ Hd (Rd lw sz K w v xs) := h.sh
theorem Rd.nar {α : Type} {L L' sz : Nat} {K K' : World → α → List Value → Prop} {w : World} {v : Value} {xs : List α} (h : Rd L sz K w v xs) (hl : xs.length ≤ L') (hk : ∀ x, x ∈ xs → ∀ cs, K w x cs → K' w x cs) : Rd L' sz K' w v xs := by
  obtain ⟨A, c, rfl, h1, h2, hz, h3⟩ := h
  refine ⟨A, c, rfl, h1, hl, hz, fun h0 => ?_⟩
  obtain ⟨b, off, rfl, hlt, hat⟩ := h3 h0
  refine ⟨b, off, rfl, hlt, fun i hi => ?_⟩
  obtain ⟨cs, hk1, hl, hc⟩ := hat i hi
  exact ⟨cs, hk _ (List.getElem_mem hi) _ hk1, hl, hc⟩
theorem nar_phi {w : World} {p : XPhi} {cs : List Value} (h : KPhi lw w p cs) (hw : wPhi p ≤ lm) : KPhi lm w p cs := by
  obtain ⟨v, rfl, hr⟩ := h; exact ⟨v, rfl, hr.nar hw fun _ _ _ hk => hk⟩
theorem nar_inst {w : World} {p : XInst} {cs : List Value} (h : KInst lw w p cs) (hw : wInst p ≤ lm) : KInst lm w p cs := by
  obtain ⟨v, rfl, hr⟩ := h; exact ⟨v, rfl, hr.nar hw fun _ _ _ hk => hk⟩
theorem nar_block {w : World} {p : XBlock} {cs : List Value} (h : KBlock lw w p cs) (hw : wBlock p ≤ lm) : KBlock lm w p cs := by
  obtain ⟨v, v', rfl, hr, hs⟩ := h
  unfold wBlock at hw
  have h1 : wL wPhi p.phis ≤ lm := by omega
  have h2 : wL wInst p.insts ≤ lm := by omega
  exact ⟨v, v', rfl, hr.nar (by unfold wL at h1; omega) fun x hx _ hk => nar_phi hk (Nat.le_trans (wL_mem _ _ _ hx) h1), hs.nar (by unfold wL at h2; omega) fun x hx _ hk => nar_inst hk (Nat.le_trans (wL_mem _ _ _ hx) h2)⟩
theorem nar_func {w : World} {p : XFunc} {cs : List Value} (h : KFunc lw w p cs) (hw : wFunc p ≤ lm) : KFunc lm w p cs := by
  obtain ⟨v, v', rfl, hr, hs⟩ := h
  unfold wFunc at hw
  have h2 : wL wBlock p.blocks ≤ lm := by omega
  exact ⟨v, v', rfl, hr.nar (by omega) fun _ _ _ hk => hk, hs.nar (by unfold wL at h2; omega) fun x hx _ hk => nar_block hk (Nat.le_trans (wL_mem _ _ _ hx) h2)⟩
/-! ### a row of one's own is read -/
theorem OwI.rd {lo : Nat} {w : World} {v : Value} {xs : List Int} (h : OwI lo w v xs) (hl : xs.length ≤ lm) : RI lm w v xs := Own.rd h (fun _ _ hk => hk) hl
theorem Own.rdm {α : Type} {L lo e sz : Nat} {K : World → α → List Value → Prop} {K' : World → α → List Value → Prop} {w : World} {v : Value} {xs : List α} (h : Own lo e sz K w v xs) (hk : ∀ x, x ∈ xs → ∀ cs, K w x cs → K' w x cs) (hL : xs.length ≤ L) : Rd L sz K' w v xs :=
  (Own.rd (K' := K) h (fun _ _ hk => hk) hL).nar hL hk
end Go.Proofs.YtdnbiohohbnhgaaDoor
