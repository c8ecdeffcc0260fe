import Derived.Test.YtkcgejbnhpccdaaGreatT02
set_option linter.unusedSimpArgs false
set_option linter.unusedVariables false
namespace Go.Proofs.YtkcgejbnhpccdaaGreat
open Go.RowKit
theorem Own.sh {α : Type} {lo e sz : Nat} {K : World → α → List Value → Prop} {w : World} {v : Value} {xs : List α} (h : Own lo e sz K w v xs) : ∃ A c, v = .slice A xs.length c ∧ Hd (Own lo e sz K w v xs) := by
  have h' := h
  obtain ⟨cells, h1, h2⟩ := h
  obtain ⟨A, c, rfl, _⟩ := own_shape h1
  exact ⟨A, c, rfl, ⟨h'⟩⟩
theorem own_cell {w : World} {base e sz G n cap : Nat} {cs : List Value} (h : w.ownsRow base e sz (.slice (some ⟨G, 0, none⟩) n cap) n cs) (j : Nat) (hj : j < n * sz) : ∃ u, w.cell? ⟨G, j, none⟩ = some u := by
  rw [World.ownsRow.cellAt h j hj]
  exact ⟨_, List.getElem?_eq_getElem (by have := h.1; omega)⟩
theorem mk_own (W : World) (base e sz n : Nat) (z : Array Value) (hb : base ≤ W.heap.size) (hm : n ≤ maxLen) : (W.alloc (.cells (madeCells z (n * sz)) e)).ownsRow base e sz (.slice (some ⟨W.heap.size, 0, none⟩) n n) n (madeCells z (n * sz)).toList :=
  World.ownsRow_lit W _ n hb hm (size_madeCells _ _)
theorem mk_run (t e : Nat) (z : Value) (sz bytes n : Nat) (ht : Tryz.prog.underlying t = some (.slice e)) (hi : (Tryz.prog.info? e).map (fun i => (i.zero, i.size, i.bytes)) = some (some z, sz, bytes)) (hb : bytes * n ≤ 281474976710656) (hn : n ≤ 9223372036854775807) (W : World) :
    (Instr.makeSlice t (.int .i64 (n : Int)) (.int .i64 (n : Int))).run Tryz.prog W = .ok (.slice (some ⟨W.heap.size, 0, none⟩) n n) (W.alloc (.cells (madeCells z.cells (n * sz)) e)) := by
  obtain ⟨i0, h1, h2, h3, h4⟩ := info_parts hi
  have h := run_make (P := Tryz.prog) W t e i0 z ht h1 h2 .i64 .i64 n n (by omega) (Int.le_refl _) (by rw [h4]; have h9 : ((bytes * n : Nat) : Int) ≤ 281474976710656 := Int.ofNat_le.2 hb; rwa [Int.natCast_mul] at h9) (by omega)
  rw [h3] at h
  simpa using h
theorem infoPhi : (Tryz.prog.info? 165).map (fun i => (i.zero, i.size, i.bytes)) = some (some (.agg #[.int .i64 0, .slice none 0 0]), 2, 32) := by kernel_rfl
theorem infoInst : (Tryz.prog.info? 26).map (fun i => (i.zero, i.size, i.bytes)) = some (some (.agg #[.int .i64 0, .int .i64 0, .int .i64 0, .int .i64 0, .int .i64 0, .int .i64 0, .slice none 0 0]), 7, 72) := by kernel_rfl
theorem infoBlock : (Tryz.prog.info? 32).map (fun i => (i.zero, i.size, i.bytes)) = some (some (.agg #[.slice none 0 0, .slice none 0 0, .int .i64 0, .int .i64 0, .int .i64 0, .int .i64 0]), 6, 80) := by kernel_rfl
end Go.Proofs.YtkcgejbnhpccdaaGreat
