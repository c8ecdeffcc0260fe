/- Contracts of the laws' functions that copy. No conditions. -/
import Derived.Test.YtdnbiohohbnhgaaDoorL1
set_option linter.unusedSimpArgs false
set_option linter.unusedVariables false
namespace Go.Proofs.YtdnbiohohbnhgaaDoor
open Go.RowKit
def RetX {α : Type} (K : Nat → World → α → List Value → Prop) (x : α) (w : World) (e : Ending) (w' : World) : Prop := ∃ cs, e = .returned (.agg cs.toArray) ∧ K w.heap.size w' x cs ∧ Below w.heap.size w w'
def RetL {α : Type} (e sz : Nat) (K : Nat → World → α → List Value → Prop) (xs : List α) (w : World) (en : Ending) (w' : World) : Prop := ∃ v, en = .returned v ∧ Own w.heap.size e sz (K w.heap.size) w' v xs ∧ Below w.heap.size w w'
theorem Own.sh {α : Type} {lo e sz : Nat} {K : World → α → List Value → Prop} {w : World} {v : Value} {xs : List α} (h : Own lo e sz K w v xs) : ∃ A c, v = .slice A xs.length c ∧ Hd (Own lo e sz K w v xs) := by
  have h' := h
  obtain ⟨cells, h1, h2⟩ := h
  obtain ⟨A, c, rfl, _⟩ := own_shape h1
  exact ⟨A, c, rfl, ⟨h'⟩⟩
theorem own_lt {w : World} {base e sz G n cap : Nat} {cs : List Value} (h : w.ownsRow base e sz (.slice (some ⟨G, 0, none⟩) n cap) n cs) : base ≤ G ∧ G < w.heap.size := by
  rcases h.2 with ⟨h', _⟩ | ⟨g, cap', cur, h', h1, h2, _⟩
  · cases h'
  · cases h'; exact ⟨h1, (Array.getElem?_eq_some_iff.1 h2).1⟩
theorem own_cell {w : World} {base e sz G n cap : Nat} {cs : List Value} (h : w.ownsRow base e sz (.slice (some ⟨G, 0, none⟩) n cap) n cs) (j : Nat) (hj : j < n * sz) : ∃ u, w.cell? ⟨G, j, none⟩ = some u := by
  rw [World.ownsRow.cellAt h j hj]
  exact ⟨_, List.getElem?_eq_getElem (by have := h.1; omega)⟩
theorem mk_own (W : World) (base e sz n : Nat) (z : Array Value) (hb : base ≤ W.heap.size) (hm : n ≤ maxLen) : (W.alloc (.cells (madeCells z (n * sz)) e)).ownsRow base e sz (.slice (some ⟨W.heap.size, 0, none⟩) n n) n (madeCells z (n * sz)).toList :=
  World.ownsRow_lit W _ n hb hm (size_madeCells _ _)
theorem mk_run (t e : Nat) (z : Value) (sz bytes n : Nat) (ht : Tryd.prog.underlying t = some (.slice e)) (hi : (Tryd.prog.info? e).map (fun i => (i.zero, i.size, i.bytes)) = some (some z, sz, bytes)) (hb : bytes * n ≤ 281474976710656) (hn : n ≤ 9223372036854775807) (W : World) :
    (Instr.makeSlice t (.int .i64 (n : Int)) (.int .i64 (n : Int))).run Tryd.prog W = .ok (.slice (some ⟨W.heap.size, 0, none⟩) n n) (W.alloc (.cells (madeCells z.cells (n * sz)) e)) := by
  obtain ⟨i0, h1, h2, h3, h4⟩ := info_parts hi
  have h := run_make (P := Tryd.prog) W t e i0 z ht h1 h2 .i64 .i64 n n (by omega) (Int.le_refl _) (by rw [h4]; have h9 : ((bytes * n : Nat) : Int) ≤ 281474976710656 := Int.ofNat_le.2 hb; rwa [Int.natCast_mul] at h9) (by omega)
  rw [h3] at h
  simpa using h
set_option maxHeartbeats 1000000 in
theorem t_I (v : Value) (x : List Int) (w : World) (hv : RI lm w v x) : Calls Tryd.prog 12 #[v] w (RetL 2 1 OInt x w) := by
  obtain ⟨A, c, rfl, -, hl, hv0⟩ := hv.sm
  clear hv
  have hmk := mk_run 22 2 (.int .i64 0) 1 8 x.length Tryd.underlying22 infoI (by omega) (by omega)
  rw [Nat.mul_one] at hmk
  go_enter Tryd.func12, Tryd.ntmps12
  go_wp2
  have hst := mk_own w w.heap.size 2 1 x.length #[.int .i64 0] (Nat.le_refl _) (by unfold maxLen; omega)
  rw [Nat.mul_one] at hst
  have hst' := Hd.mk hst
  clear hst hmk
  generalize hmc : madeCells #[.int .i64 0] x.length = mc at *
  clear hmc
  go_loopw [4] (fun s4 wr => ∃ k : Nat, ∃ cells, k ≤ x.length ∧ s4 = .int .i64 k ∧ Hd (wr.ownsRow w.heap.size 2 1 (.slice (some ⟨w.heap.size, 0, none⟩) x.length x.length) x.length cells) ∧ Hd (Els 1 (OInt w.heap.size wr) cells x k) ∧ Hd (Below w.heap.size w wr)) (fun s4 _ => x.length - (intOf s4).toNat)
  case atStart => exact ⟨0, _, Nat.zero_le _, rfl, hst', ⟨Els.nil _ _ _ _⟩, ⟨(Below.refl _ _).al (Nat.le_refl _) _⟩⟩
  case round =>
    clear hst'
    obtain ⟨k, cells, hk, rfl, ho, hels, hbr⟩ := hrel
    by_cases hlt : k < x.length
    · obtain ⟨b, off, cs, hA, hbl, hk1, hat⟩ := hv0.out.in0 hbr.out k hlt
      cases hA
      cases hk1
      have g0 := hat 0 _ rfl
      simp at g0
      clear hat
      obtain ⟨u0, q0⟩ := own_cell ho.out k (by omega)
      have fz := World.ownsRow.frozenAt ho.out k
      go_wp2
      go_roundw
      case rel =>
        have ho2 := own_setAll [.int .i64 x[k]] k ho.out
        have hel := Els.set hels.out hlt [.int .i64 x[k]] rfl rfl (by simpa using ho.out.1)
        rw [Nat.mul_one] at hel
        exact ⟨k + 1, _, by omega, by go_num, ⟨ho2⟩, ⟨hel.imp fun _ _ hh => hh⟩, ⟨below_setAll [.int .i64 x[k]] (Nat.le_refl _) k hbr.out⟩⟩
      case measure => simp [intOf]; omega
    · have e : k = x.length := by omega
      subst e
      go_wp2
      go_ret
      exact ⟨_, rfl, ⟨cells, ho.out, hels.out⟩, hbr.out⟩
theorem own_sw {α : Type} {K : Nat → World → α → List Value → Prop} {e sz : Nat} {w : World} {v : Value} {xs : List α} {lo : Nat} (h : Own lo e sz (K lo) w v xs) : ∃ A c, v = .slice A xs.length c ∧ Hd (Own lo e sz (K lo) w v xs) := h.sh
theorem abv_setAll {lo G : Nat} (us : List Value) (hG : G < lo) : ∀ {a w : World} (o : Nat), Abv lo a w → Abv lo a (setAll w G o us) := by
  induction us with
  | nil => intro a w o h; exact h
  | cons u r ih => intro a w o h; exact ih (o + 1) (h.setCell (p := ⟨G, o, none⟩) hG u)
theorem rel_step {α : Type} {K : Nat → World → α → List Value → Prop} [KA K] {lo base e sz G c : Nat} {w wr w1 : World} {xs : List α} {cells : List Value} {k : Nat} (us : List Value)
    (ho : wr.ownsRow base e sz (.slice (some ⟨G, 0, none⟩) xs.length c) xs.length cells) (hels : Els sz (K lo wr) cells xs k) (hG : G < lo) (hbG : base ≤ G) (hbr : Below base w wr) (hz : base ≤ wr.heap.size) (hb1 : Below wr.heap.size wr w1) (hlt : k < xs.length) (hu : us.length = sz) (hK : K lo w1 xs[k] us) :
    ∃ cells', (setAll w1 G (k * sz) us).ownsRow base e sz (.slice (some ⟨G, 0, none⟩) xs.length c) xs.length cells' ∧ Els sz (K lo (setAll w1 G (k * sz) us)) cells' xs (k + 1) ∧ Below base w (setAll w1 G (k * sz) us) := by
  have hA : Abv lo wr (setAll w1 G (k * sz) us) := abv_setAll us hG _ ((Abv.refl _ _).below hb1)
  have hA1 : Abv lo w1 (setAll w1 G (k * sz) us) := abv_setAll us hG _ (Abv.refl _ _)
  exact ⟨_, own_setAll us _ (own_mv ho hb1), Els.set (hels.imp fun _ _ hh => KA.mv hh hA) hlt us hu (KA.mv hK hA1) ho.1, below_setAll us hbG _ (hbr.trans (hb1.mono hz))⟩
end Go.Proofs.YtdnbiohohbnhgaaDoor
