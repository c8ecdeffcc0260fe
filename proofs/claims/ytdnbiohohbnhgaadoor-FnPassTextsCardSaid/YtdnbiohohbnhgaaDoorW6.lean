/- Contracts of the reference's reader of bytes: next, below, once. No conditions. -/
import Derived.Test.YtdnbiohohbnhgaaDoorP5
import Derived.Deep.RegionWith
import Derived.StillTailTactics
import Derived.Deep.QuietTactic
import Derived.BigQuiet
set_option linter.unusedSimpArgs false
set_option linter.unusedVariables false
namespace Go.Proofs.YtdnbiohohbnhgaaDoor
open Go.RowKit
/-- A reader of bytes in block g; the bytes lie below lo. -/
def RS (lo : Nat) (w : World) (g : Nat) : Prop := lo ≤ g ∧ ∃ (A : Option Addr) (n c p : Nat), w.heap[g]? = some (.cells #[.slice A n c, .int .i64 p] 61 (0, 0)) ∧ p ≤ n ∧ n ≤ 1048576 ∧
  ∀ i, i < n → ∃ b off q, A = some ⟨b, off, none⟩ ∧ b < lo ∧ 0 ≤ q ∧ q < 256 ∧ w.cell? ⟨b, off + i, none⟩ = some (.int .u8 q)
def RetR (lo g : Nat) (φ : Value → Prop) (w : World) (e : Ending) (w' : World) : Prop := ∃ v, e = .returned v ∧ φ v ∧ RS lo w' g ∧ w.grownBy w' (some g)
theorem gb_below {lo g : Nat} {w w' : World} (h : w.grownBy w' (some g)) (hg : lo ≤ g) (hw : lo ≤ w.heap.size) : Below lo w w' := (Below.refl lo w).grown h hw fun k hk => by cases hk; exact hg
theorem RS.mv {lo g : Nat} {w w' : World} {row : Option Nat} (h : RS lo w g) (hg : w.grownBy w' row) (hne : row ≠ some g) (hr : ∀ k, row = some k → lo ≤ k) : RS lo w' g := by
  obtain ⟨hlo, A, n, c, p, h1, h2, h3, h4⟩ := h
  have hgl := (Array.getElem?_eq_some_iff.1 h1).1
  have hb : Below lo w w' := (Below.refl lo w).grown hg (by omega) hr
  refine ⟨hlo, A, n, c, p, (hg.block g hgl (fun e => hne (by first | exact e | exact e.symm))).trans h1, h2, h3, fun i hi => ?_⟩
  obtain ⟨b, off, q, h5, h6, h7, h8, h9⟩ := h4 i hi
  exact ⟨b, off, q, h5, h6, h7, h8, (bat hb b h6 _).trans h9⟩
theorem gb_drewN {w W : World} {r : Option Nat} (h : w.grownBy W r) (n : Nat) : w.grownBy (W.drewN n) r := ⟨h.os, h.tape, h.output, h.size, h.block⟩
set_option maxHeartbeats 1000000 in
theorem s_next (lo g : Nat) (w : World) (h : RS lo w g) : Calls Tryd.prog 39 #[.pointer (some ⟨g, 0, none⟩)] w (RetR lo g (fun v => ∃ q : Int, v = .int .i64 q ∧ 0 ≤ q ∧ q < 256) w) := by
  have h0 := Hd.mk h
  obtain ⟨hlo, A, n, c, p, h1, h2, h3, h4⟩ := h
  obtain ⟨c0, -⟩ := row_facts h1
  have f0 := fun o => (row_facts h1).2 o
  have k0 := c0 0
  have k1 := c0 1
  simp at k0 k1
  have hgl := (Array.getElem?_eq_some_iff.1 h1).1
  by_cases hlt : p < n
  · obtain ⟨b, off, q, rfl, h6, h7, h8, h9⟩ := h4 p hlt
    clear h4 c0
    go_enter Tryd.func39, Tryd.ntmps39
    go_wp2
    go_quiet (fail)
    go_wp2
    have hbg : b ≠ g := by omega
    have hnn : (p : Int) + 1 - 1 = p := by omega
    obtain ⟨W1, hW1⟩ : ∃ W1 : World, W1 = (w.drewN nq).setCell ⟨g, 1, none⟩ (.int .i64 ((p : Int) + 1)) := ⟨_, rfl⟩
    rw [← hW1]
    have hh : W1.heap[g]? = some (.cells #[.slice (some ⟨b, off, none⟩) n c, .int .i64 ((p : Int) + 1)] 61 (0, 0)) := by
      rw [hW1]
      exact heap_set (w := w.drewN nq) (j := 1) (u := .int .i64 ((p : Int) + 1)) h1
    obtain ⟨c1, -⟩ := row_facts hh
    have k0' := c1 0
    have k1' := c1 1
    simp at k0' k1'
    have hbl : Below g w W1 := by rw [hW1]; exact (below_drewN (Below.refl g w) _).setCell (p := ⟨g, 1, none⟩) (Nat.le_refl _) _
    have h9' := (bat hbl b (by omega) (off + p)).trans h9
    clear c1
    have hgb : w.grownBy W1 (some g) := by
      rw [hW1]
      exact ⟨rfl, rfl, rfl, by simp [World.setCell, World.drewN], fun i hi hne => Below.heap_setCell _ _ _ _ (fun e => hne (by rw [e]))⟩
    have hh' := Hd.mk hh
    have hgb' := Hd.mk hgb
    clear hW1 k0 k1 h9 f0 hbl hh hgb
    go_quiet (fail)
    go_wp2
    go_ret
    refine ⟨_, rfl, ⟨q, rfl, h7, h8⟩, ?_, gb_drewN hgb'.out _⟩
    have h1' := h0.out
    obtain ⟨-, A0, n0, c0, p0, j1, j2, j3, j4⟩ := h1'
    rw [h1] at j1
    cases j1
    refine ⟨hlo, _, n, c, p + 1, hh'.out, by omega, h3, fun i hi => ?_⟩
    obtain ⟨b', off', q', e', h6', h7', h8', h9''⟩ := j4 i hi
    refine ⟨b', off', q', e', h6', h7', h8', ?_⟩
    exact (bat (gb_below hgb'.out hlo (by omega)) b' h6' _).trans h9''
  · have e : p = n := by omega
    subst e
    clear h4 c0
    go_enter Tryd.func39, Tryd.ntmps39
    go_wp2
    go_quiet (fail)
    go_wp2
    go_ret
    exact ⟨_, rfl, ⟨_, rfl, by omega, by omega⟩, h0.out.mv (row := none) ⟨rfl, rfl, rfl, Nat.le_refl _, fun _ _ _ => rfl⟩ (by simp) (fun k hk => by cases hk), ⟨rfl, rfl, rfl, Nat.le_refl _, fun _ _ _ => rfl⟩⟩
set_option maxHeartbeats 1000000 in
theorem s_below (lo g : Nat) (n : Int) (w : World) (h : RS lo w g) (hn : 1 ≤ n ∧ n ≤ 256) : Calls Tryd.prog 29 #[.pointer (some ⟨g, 0, none⟩), .int .i64 n] w (RetR lo g (fun v => ∃ q : Int, v = .int .i64 q ∧ 0 ≤ q ∧ q < n) w) := by
  obtain ⟨n1, n2⟩ := hn
  have hx := s_next lo g w h
  have h' := Hd.mk h
  clear h
  by_cases h1 : n = 1
  · subst h1
    clear hx
    go_enter Tryd.func29, Tryd.ntmps29
    go_wp2
    go_ret
    exact ⟨_, rfl, ⟨0, rfl, by omega, by omega⟩, h'.out, World.grownBy.refl _ _⟩
  · have hd : ¬ n ≤ 1 := by omega
    have hm : ∀ q : Int, 0 ≤ q → 0 ≤ q % n ∧ q % n < n := fun q hq => ⟨Int.emod_nonneg _ (by omega), Int.emod_lt_of_pos _ (by omega)⟩
    go_enter Tryd.func29, Tryd.ntmps29
    go_wp2_with fail
    refine hx.mono ?_; rintro e w1 ⟨v, rfl, ⟨q, rfl, q1, q2⟩, hr, hg⟩
    have hr' := Hd.mk hr
    have hg' := Hd.mk hg
    have hm' := Hd.mk (hm q q1)
    clear hm hr hg
    go_wp2
    go_ret
    exact ⟨_, rfl, ⟨_, rfl, hm'.out.1, hm'.out.2⟩, hr'.out, hg'.out⟩
theorem s_once (lo g : Nat) (n : Int) (w : World) (h : RS lo w g) (hn : 1 ≤ n ∧ n ≤ 256) : Calls Tryd.prog 28 #[.pointer (some ⟨g, 0, none⟩), .int .i64 n] w (RetR lo g (fun v => ∃ b : Bool, v = .bool b) w) := by
  have hx := s_below lo g n w h hn
  obtain ⟨n1, n2⟩ := hn
  clear h
  go_enter Tryd.func28, Tryd.ntmps28
  go_wp2_with fail
  refine hx.mono ?_; rintro e w1 ⟨v, rfl, ⟨q, rfl, q1, q2⟩, hr, hg⟩
  have hr' := Hd.mk hr
  have hg' := Hd.mk hg
  clear hr hg
  go_wp2
  go_ret
  exact ⟨_, rfl, ⟨_, rfl⟩, hr'.out, hg'.out⟩
end Go.Proofs.YtdnbiohohbnhgaaDoor
