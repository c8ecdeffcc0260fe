import Derived.Test.YtkcgejbnhpccdaaGreatP36
import Derived.Test.YtkcgejbnhpccdaaGreatP17
import Derived.Test.YtkcgejbnhpccdaaGreatP03
import Derived.Test.YtkcgejbnhpccdaaGreatP13
set_option linter.unusedSimpArgs false
set_option linter.unusedVariables false
namespace Go.Proofs.YtkcgejbnhpccdaaGreat
open Go.RowKit
def Hld (w : World) (A : Option Addr) (n : Nat) (k : Int) : Prop := 0 < n → ∃ (b : Nat) (arr : Array Value) (e : TypeId), A = some ⟨b, 0, none⟩ ∧ w.heap[b]? = some (.cells arr e (0, 0)) ∧ ∀ i, i < n → arr[i]? = some (.int .i64 (k + i))
theorem Hld.mv {w w' : World} {A : Option Addr} {n : Nat} {k : Int} (h : Hld w A n k) (hb : Below w.heap.size w w') : Hld w' A n k := fun h0 => by
  obtain ⟨b, arr, e, rfl, h1, h2⟩ := h h0
  exact ⟨b, arr, e, rfl, (hb.block b (Array.getElem?_eq_some_iff.1 h1).1).trans h1, h2⟩
theorem Chg.set {lo hi : Nat} {w W : World} {b o : Nat} {e : TypeId} {arr : Array Value} {i i' : Int} (hc : Chg lo hi w W) (h : w.heap[b]? = some (.cells arr e (0, 0))) (hb : lo ≤ b ∧ b < hi) (ho : arr[o]? = some (.int .i64 i)) : Chg lo hi w (W.setCell ⟨b, o, none⟩ (.int .i64 i')) := by
  obtain ⟨arr', h1, h2⟩ := hc.cell b arr e h
  obtain ⟨i2, h3⟩ : ∃ i, arr'[o]? = some (.int .i64 i) := by
    rcases h2 o _ ho with h3 | ⟨-, h3⟩
    · exact ⟨_, h3⟩
    · exact h3
  exact hc.trans (Chg.setCell h1 hb h3)
theorem Chg.cellAt {lo hi : Nat} {w w' : World} (h : Chg lo hi w w') (b : Nat) (h1 : b < w.heap.size) (h2 : b < lo ∨ hi ≤ b) (o : Nat) : w'.cell? ⟨b, o, none⟩ = w.cell? ⟨b, o, none⟩ := by
  simp only [World.cell?, h.out b h1 h2]
theorem Chg.frozenAt {lo hi : Nat} {w w' : World} (h : Chg lo hi w w') (b : Nat) (h1 : b < w.heap.size) (h2 : b < lo ∨ hi ≤ b) (o : Nat) : w'.frozen? ⟨b, o, none⟩ = w.frozen? ⟨b, o, none⟩ := by
  simp only [World.frozen?, h.out b h1 h2]
end Go.Proofs.YtkcgejbnhpccdaaGreat
