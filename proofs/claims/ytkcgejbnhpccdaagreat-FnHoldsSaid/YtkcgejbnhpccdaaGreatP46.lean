import Derived.Test.YtkcgejbnhpccdaaGreatP43
import Derived.Test.YtkcgejbnhpccdaaGreatP41
import Derived.Test.YtkcgejbnhpccdaaGreatP44
import Derived.Test.YtkcgejbnhpccdaaGreatP29
import Derived.Test.YtkcgejbnhpccdaaGreatP45
set_option linter.unusedSimpArgs false
set_option linter.unusedVariables false
namespace Go.Proofs.YtkcgejbnhpccdaaGreat
open Go.RowKit
def Grown (b : Nat) (k : Int) (D : GD) : Prop := D.nB ≤ b ∧ Nm D ∧ D.next ≤ k
theorem Grown.ins {b : Nat} {k i : Int} {D D' : GD} (h : Grown b k D) (hi : InsR i D D') (hn : Nm D') : Grown b (k + i) D' := ⟨by rw [hi.same.2.2.2.2.1]; exact h.1, hn, by have := hi.next.2; have := h.2.2; omega⟩
theorem Grown.blk {b n : Nat} {k i : Int} {D D' : GD} (h : Grown b k D) (hi : BlkR n i D D') : Grown (b + n) (k + i) D' := ⟨by have := hi.2.2.2.1; have := h.1; omega, hi.2.2.2.2.1, by have := hi.2.2.2.2.2.2; have := h.2.2; omega⟩
theorem fr3 {w : World} {b : Nat} (E : Nat → Prop) (u0 u1 u2 : Value) (h : E b) : Fr E w (((w.setCell ⟨b, 0, none⟩ u0).setCell ⟨b, 1, none⟩ u1).setCell ⟨b, 2, none⟩ u2) :=
  (((Fr.set w b 0 u0).go (Fr.set _ b 1 u1) fun _ e => .inl e).go (Fr.set _ b 2 u2) fun _ e => .inl e).sub fun q e => by subst e; exact h
theorem fr_gb {g : Nat} {w w' : World} (h : Fr (fun q => q = g ∨ w.heap.size ≤ q) w w') : w.grownBy w' (some g) := ⟨h.os, h.tape, h.output, h.size, fun i hi hne => h.block i hi (by
  rintro (rfl | e)
  · exact hne rfl
  · omega)⟩
set_option maxRecDepth 20000 in
set_option maxHeartbeats 40000000 in
theorem s_fn (lo gr : Nat) (Ar Ap : Option Addr) (cr cp : Nat) (pars : List (List Int)) (w : World) (h : RdS lo w gr) (hR : Bx (fun q => q = gr ∨ w.heap.size ≤ q) (QI (.slice Ar pars.length cr) pars.length) w) (hA : Bx (fun q => q = gr ∨ w.heap.size ≤ q) (fun w => Rd lm 1 KL w (.slice Ap pars.length cp) pars) w) (hn : pars.length ≤ 4) (hw : ∀ x ∈ pars, x.length ≤ 4 ∧ ∀ p ∈ x, isW p) :
    Calls Tryz.prog 78 #[.pointer (some ⟨gr, 0, none⟩), .slice Ar pars.length cr, .slice Ap pars.length cp] w (RetF lo gr w) := by
  have hgl := h.lt
  obtain ⟨Wb, hWb⟩ : ∃ Wb : World, Wb = (w.alloc (.cells #[.slice none 0 0, .int .i64 0, .slice none 0 0] 35)).alloc (.cells #[.pointer (some ⟨gr, 0, none⟩), .slice none 0 0, .int .i64 0, .slice none 0 0, .slice none 0 0, .slice none 0 0, .int .i64 0, .int .i64 0, .int .i64 0, .int .i64 0, .int .i64 0, .slice none 0 0, .slice none 0 0, .slice Ar pars.length cr, .slice Ap pars.length cp] 141) := ⟨_, rfl⟩
  have hzb : Wb.heap.size = w.heap.size + 2 := by rw [hWb]; simp
  have hBb : Below w.heap.size w Wb := by rw [hWb]; exact ((Below.refl w.heap.size w).al (Nat.le_refl _) _).al (by simp) _
  have hro : Wb.heap[w.heap.size]? = some (.cells #[.slice none 0 0, .int .i64 0, .slice none 0 0] 35 (0, 0)) := by rw [hWb]; exact heap_old (heap_new _ _ _ _ rfl) (by simp)
  have hgo : Wb.heap[w.heap.size + 1]? = some (.cells ((gd0 0).cells (gc0 lo gr (w.heap.size + 1) (.slice Ar pars.length cr) (.slice Ap pars.length cp) pars)).toArray 141 (0, 0)) := by rw [hWb]; exact heap_new _ _ _ _ (by simp)
  have hrs : RdS lo Wb gr := by rw [hWb]; exact (h.al _).al _
  have hWb' := Hd.mk hWb
  have hp := s_width lo gr Wb hrs
  have hh := Hd.mk h
  clear hWb h
  go_enter Tryz.func78, Tryz.ntmps78
  go_wp2_with fail
  rw [← hWb'.out]
  refine hp.mono ?_; rintro e w1 ⟨v, rfl, ⟨wd, rfl, hwd⟩, hr1, hg1⟩
  have hro1 := (hg1.block w.heap.size (by omega) (by simp; omega)).trans hro
  have hgo1 := (hg1.block (w.heap.size + 1) (by omega) (by simp; omega)).trans hgo
  have hz1 := hg1.size
  have f1 := (row_facts hgo1).2
  have e1 := (row_facts hgo1).1 2
  simp [GD.cells, gd0, gc0] at e1
  obtain ⟨w2, hw2⟩ : ∃ w2 : World, w2 = w1.setCell ⟨w.heap.size + 1, 2, none⟩ (.int .i64 wd) := ⟨_, rfl⟩
  have hz2 : w2.heap.size = w1.heap.size := by rw [hw2]; simp [World.setCell]
  have hF2 : Fr (fun q => q = gr ∨ w.heap.size ≤ q) w w2 := by
    rw [hw2]
    exact ((Fr.of (fun q => q = gr ∨ w.heap.size ≤ q) hBb).go (Fr.gb hg1) fun q e => .inl (.inl (by injection e with e; exact e.symm))).go (Fr.set _ _ _ _) fun q e => .inl (.inr (by rw [e]; omega))
  have hrs2 : RdS lo w2 gr := by rw [hw2]; exact hr1.fr (Fr.set _ _ _ _) (show gr < w.heap.size + 1 by omega) (Nat.le_refl _)
  have hgo2 : w2.heap[w.heap.size + 1]? = some (.cells ((gd0 wd).cells (gc0 lo gr (w.heap.size + 1) (.slice Ar pars.length cr) (.slice Ap pars.length cp) pars)).toArray 141 (0, 0)) := by rw [hw2]; exact (heap_set hgo1).trans (by simp [GD.cells, gd0, gc0])
  have hro2 : Hd (w2.heap[w.heap.size]? = some (.cells #[.slice none 0 0, .int .i64 0, .slice none 0 0] 35 (0, 0))) := ⟨by rw [hw2]; exact heap_off hro1 (by omega)⟩
  have hgs := gs_init hgo2 hrs2 (by omega) hwd (hR.go hF2 fun q e => .inl (by rcases e with e | e; exact .inl e; exact .inr (Nat.le_trans (Nat.le_succ _) e))) (hA.go hF2 fun q e => .inl (by rcases e with e | e; exact .inl e; exact .inr (Nat.le_trans (Nat.le_succ _) e))) hn hw
  have hF2' := Hd.mk hF2
  obtain ⟨C, hC⟩ : ∃ C : GC, C = gc0 lo gr (w.heap.size + 1) (.slice Ar pars.length cr) (.slice Ap pars.length cp) pars := ⟨_, rfl⟩
  obtain ⟨D0, hD0⟩ : ∃ D0 : GD, D0 = gd0 wd := ⟨_, rfl⟩
  rw [← hC, ← hD0] at hgs
  have c1 : w.heap.size + 1 = C.gg := by rw [hC]; rfl
  have c2 : gr = C.gr := by rw [hC]; rfl
  have c3 : lo = C.lo := by rw [hC]; rfl
  have c4 : C.fl = C.gg := by rw [hC]; rfl
  have g0 : Hd (GP C D0 D0 w2 w2) := ⟨GP.refl hgs⟩
  have hga := Hd.mk (GK.ga hgs)
  have b0 : Hd (Grown 0 0 D0 ∧ D0.ps.length = 0) := ⟨by rw [hD0]; exact ⟨⟨Nat.le_refl _, ⟨by show (0 : Int) ≤ 0; decide, by show (0 : Int) ≤ 0; decide, by show (0 : Int) ≤ 0; decide⟩, by show (0 : Int) ≤ 0; decide⟩, rfl⟩⟩
  have hp := s_below lo gr 3 w2 hrs2 (by omega)
  rw [c1] at f1 e1 hw2
  have hw2' := Hd.mk hw2
  have hz1' : C.gg < w1.heap.size := by omega
  clear hw2 hgo hgo1 hgo2 hrs hrs2 hro hro1 hBb hg1 hr1 hF2 hC hgs hR hA
  rw [c1]
  have c1' := Hd.mk c1
  have c4' := Hd.mk c4
  clear c1 c4 hD0
  subst c2
  subst c3
  have hz2' := Hd.mk hz2
  clear hz2 hzb
  go_wp2_with fail
  rw [← hw2'.out]
  refine hp.mono ?_; rintro e w3 ⟨v, rfl, ⟨q0, rfl, q1, q2⟩, hr, hg⟩
  have g1 := Hd.mk (g0.out.trans (g0.out.gs.rd hg hr))
  obtain ⟨i0, rfl⟩ : ∃ i : Nat, q0 = i := ⟨q0.toNat, by omega⟩
  have hi2 : i0 ≤ 2 := by omega
  clear hr hg hp q1 q2 hz1 hz1' f1 e1 hw2'
  go_wp2
  go_loopw [8] (fun s8 wr => ∃ (i : Nat) (D1 : GD), i ≤ 2 ∧ s8 = .int .i64 i ∧ Hd (GP C D0 D1 w2 wr) ∧ Hd (Grown 0 (2 - i) D1 ∧ D1.ps.length + i ≤ 2)) (fun s8 _ => (intOf s8).toNat)
  case atStart => exact ⟨i0, D0, hi2, rfl, g1, ⟨⟨b0.out.1.1, b0.out.1.2.1, by have := b0.out.1.2.2; omega⟩, by have := b0.out.2; omega⟩⟩
  case round =>
    obtain ⟨i, D1, hi, rfl, g2, b2⟩ := hrel
    clear g0 b0 g1
    by_cases hi0 : 0 < i
    · obtain ⟨j, rfl⟩ : ∃ j, i = j + 1 := ⟨i - 1, by omega⟩
      have hpos : (0 : Int) < ((j + 1 : Nat) : Int) := by omega
      have hwj : IntKind.i64.wrap (((j + 1 : Nat) : Int) - 1) = (j : Int) := by rw [IntWalk.i64_in _ (by omega)]; omega
      have hp := s_width C.lo C.gr wr g2.out.gs.rs
      go_wp2_with fail
      refine hp.mono ?_; rintro e w4 ⟨v, rfl, ⟨wd4, rfl, hwd4⟩, hr, hg⟩
      have g3 := Hd.mk (g2.out.trans (g2.out.gs.rd hg hr))
      have hwd4' := Hd.mk hwd4
      clear hr hg hp hwd4
      have j1 := g3.out.gs.at 1
      simp [GD.cells] at j1
      have hoP := Hd.mk g3.out.gs.oP
      have hal := Hd.mk fun (o : Obj) => (Below.refl w4.heap.size w4).al (Nat.le_refl _) o
      have hlt4 := g3.out.gs.lt
      have fz4 := g3.out.gs.fz
      have hrw := Hd.mk (g3.out.gs.out g3.out.gs.oP (by decide) (by decide))
      go_wp2_with (at_builtin; refine appI_at rfl _ _ rfl C.fl D1.vP D1.ps [wd4] rfl (own_mv hoP.out (hal.out _)) _ 1 1 rfl (rd_one _ _) (by have := b2.out.2; omega) (by have := c4'.out; simp; omega) ?_)
      intro v' w5 ho5 hg5 hn5
      obtain ⟨Av, cv, rfl, -, -⟩ := own_shape ho5
      have hg3 := g3.out.gs.mv (hal.out (.cells #[.int .i64 wd4] 2))
      have h5c := hg3.gs.at' hg5 (fun e => (hrw.out _ e).1 rfl)
      have f5 := (row_facts h5c).2
      have d5 := (row_facts h5c).1 1
      simp [GD.cells] at d5
      have hgp := Hd.mk (g3.out.trans (hg3.trans (hg3.gs.par (.slice Av (D1.ps.length + 1) cv) wd4 hwd4'.out hg5 (by simpa using ho5) (by simpa using hn5) (Fr.set _ C.gg 1 (.slice Av (D1.ps.length + 1) cv)) ((heap_set h5c).trans (by simp [GD.cells])) (by have := b2.out.2; omega))))
      have hl5 : C.gg < w5.heap.size := (Array.getElem?_eq_some_iff.1 h5c).1
      clear h5c ho5 hg5 hn5 hg3
      have hadd := fun W' hW' => s_add C {D1 with vP := .slice Av (D1.ps.length + 1) cv, ps := D1.ps ++ [wd4]} wd4 W' hW' (by have := b2.out.1.2.2; simp only; omega) (by have := b2.out.1.2.2; have := b2.out.1.2.1.2.2; simp only; omega)
      go_wp2_with fail
      refine (hadd _ hgp.out.gs).mono ?_; rintro e w6 ⟨q, vids, vws, rfl, hg6⟩
      have hg6' := Hd.mk (hgp.out.trans hg6)
      clear hg6 hadd
      go_wp2
      go_roundw
      case rel => exact ⟨j, _, by omega, by go_num, hg6', ⟨⟨b2.out.1.1, ⟨by have := b2.out.1.2.1.1; simp only; omega, by have := b2.out.1.2.1.2.1; simp only; omega, by have := b2.out.1.2.1.2.2; simp only; omega⟩, by have := b2.out.1.2.2; simp only; omega⟩, by have := b2.out.2; simp; omega⟩⟩
      case measure => simp [intOf] <;> omega
    obtain rfl : i = 0 := by omega
    obtain ⟨w1, rfl⟩ : ∃ w1 : World, w1 = wr := ⟨_, rfl⟩
    have g1 := g2
    have b1 : Hd (Grown 0 2 D1) := ⟨by simpa using b2.out.1⟩
    clear g2 b2 hi hi0
    have hp := s_below C.lo C.gr 5 w1 g1.out.gs.rs (by omega)
    go_wp2_with fail
    refine hp.mono ?_; rintro e w2 ⟨v, rfl, ⟨p0, rfl, p1, p2⟩, hr, hg⟩
    have g2 := Hd.mk (g1.out.trans (g1.out.gs.rd hg hr))
    clear hr hg hp
    have hwp : IntKind.i64.wrap (1 + p0) = 1 + p0 := IntWalk.i64_in _ (by omega)
    have hp := s_some C D1 (1 + p0) w2 g2.out.gs b1.out.2.1 (by have h9 := b1.out.2.2; omega) (by omega)
    go_wp2_with fail
    refine hp.mono ?_; rintro e w3 ⟨D2, rfl, hg, hi, hn'⟩
    have g3 := Hd.mk (g2.out.trans hg)
    have b2 := Hd.mk (b1.out.ins (hi.mono (show 5 * (1 + p0) ≤ 25 by omega)) hn')
    clear hg hi hn' hp
    clear hwp p1 p2
    have hp := s_below C.lo C.gr 4 w3 g3.out.gs.rs (by omega)
    go_wp2_with fail
    refine hp.mono ?_; rintro e w4 ⟨v, rfl, ⟨t0, rfl, t1, t2⟩, hr, hg⟩
    have g4 := Hd.mk (g3.out.trans (g3.out.gs.rd hg hr))
    clear hr hg hp
    have ht4 : t0 = 0 ∨ t0 = 1 ∨ t0 = 2 ∨ t0 = 3 := by omega
    clear t1 t2
    rcases ht4 with rfl | rfl | rfl | rfl
    · have hp := s_fork C D2 w4 g4.out.gs b2.out.2.1 (by have h9 := b2.out.2.2; omega) (by have h9 := b2.out.1; omega)
      go_wp2_with fail
      refine hp.mono ?_; rintro e w5 ⟨D3, rfl, hg, hi⟩
      have g5 := Hd.mk (g4.out.trans hg)
      have b3 := Hd.mk (b2.out.blk hi)
      clear hg hi hp
      have hp := s_below C.lo C.gr 3 w5 g5.out.gs.rs (by omega)
      go_wp2_with fail
      refine hp.mono ?_; rintro e w6 ⟨v, rfl, ⟨u0, rfl, u1, u2⟩, hr, hg⟩
      have g6 := Hd.mk (g5.out.trans (g5.out.gs.rd hg hr))
      clear hr hg hp
      have hp := s_some C D3 (u0) w6 g6.out.gs b3.out.2.1 (by have h9 := b3.out.2.2; omega) (by omega)
      go_wp2_with fail
      refine hp.mono ?_; rintro e w7 ⟨D4, rfl, hg, hi, hn'⟩
      have g7 := Hd.mk (g6.out.trans hg)
      have b4 := Hd.mk (b3.out.ins (hi.mono (show 5 * (u0) ≤ 10 by omega)) hn')
      clear hg hi hn' hp
      clear u1 u2
      have hp := s_ends C D4 w7 g7.out.gs b4.out.2.1 (by have h9 := b4.out.2.2; omega) (by have h9 := b4.out.1; omega)
      go_wp2_with fail
      refine hp.mono ?_; rintro e w8 ⟨D5, rfl, hg, hi⟩
      have hnB : 1 ≤ D5.nB := by have := hi.2.2.2.1; omega
      have g8 := Hd.mk (g7.out.trans hg)
      clear hg hi hp
      have j1 := g8.out.gs.at 1
      have j2 := g8.out.gs.at 2
      have j3 := g8.out.gs.at 3
      simp [GD.cells] at j1 j2 j3
      obtain ⟨A1, n1, v1, -, -, -, -⟩ := own_shape g8.out.gs.oP
      obtain ⟨A3, n3, v3, -, -, -, -⟩ := own_shape g8.out.gs.oB
      rw [v1] at j1
      rw [v3] at j3
      have hrh := (g8.out.fk.block w.heap.size (Array.getElem?_eq_some_iff.1 hro2.out).1 (fun e => by have c1 := c1'.out; have c4 := c4'.out; rcases hga.out _ e with e | e <;> omega)).trans hro2.out
      have hzr := (Array.getElem?_eq_some_iff.1 hrh).1
      have hrb := row_facts hrh
      have y0 := hrb.1 0
      have y1 := hrb.1 1
      have y2 := hrb.1 2
      have yf := hrb.2
      simp at y0 y1 y2
      have hfe := g8.out.gs.func hnB
      rw [v1, v3] at hfe
      have hfe' := Hd.mk hfe
      have hrsK := Hd.mk (show RdS C.lo w8 C.gr from g8.out.gs.rs)
      have hfk := Hd.mk (g8.out.fk)
      have hlk := g8.out.gs.lt
      clear hrb hfe hrh v1 v3
      go_wp2
      refine bodyPost_ret (v := .agg #[.slice A1 D5.ps.length n1, .int .i64 D5.ret, .slice A3 D5.nB n3]) (by simp [results, Tryz.results78, go_sem, y0, y1, y2]) rfl ⟨_, rfl, hfe'.out.go (fr3 (w := w8) (b := w.heap.size) (fun q => q < C.fl ∨ w8.heap.size ≤ q) _ _ _ (.inl (by have c1 := c1'.out; have c4 := c4'.out; omega))) (fun q e => .inl ?_), ?_, ?_⟩
      · rcases e with e | e
        · exact .inl (by have c1 := c1'.out; have c4 := c4'.out; omega)
        · exact .inr (by simpa [World.setCell] using e)
      · exact hrsK.out.fr (fr3 (fun q => q = w.heap.size) _ _ _ rfl) hgl (Nat.le_refl _)
      · exact fr_gb ((hF2'.out.go hfk.out fun q e => .inl (by rcases hga.out _ e with e | e; exact .inl e; exact .inr (by have c1 := c1'.out; have c4 := c4'.out; omega))).go (fr3 (fun q => q = w.heap.size) _ _ _ rfl) fun q e => .inl (.inr (by rw [e]; exact Nat.le_refl _)))
    · have hp := s_loop C D2 w4 g4.out.gs b2.out.2.1 (by have h9 := b2.out.2.2; omega) (by have h9 := b2.out.1; omega)
      go_wp2_with fail
      refine hp.mono ?_; rintro e w5 ⟨D3, rfl, hg, hi⟩
      have g5 := Hd.mk (g4.out.trans hg)
      have b3 := Hd.mk (b2.out.blk hi)
      clear hg hi hp
      have hp := s_below C.lo C.gr 3 w5 g5.out.gs.rs (by omega)
      go_wp2_with fail
      refine hp.mono ?_; rintro e w6 ⟨v, rfl, ⟨u0, rfl, u1, u2⟩, hr, hg⟩
      have g6 := Hd.mk (g5.out.trans (g5.out.gs.rd hg hr))
      clear hr hg hp
      have hp := s_some C D3 (u0) w6 g6.out.gs b3.out.2.1 (by have h9 := b3.out.2.2; omega) (by omega)
      go_wp2_with fail
      refine hp.mono ?_; rintro e w7 ⟨D4, rfl, hg, hi, hn'⟩
      have g7 := Hd.mk (g6.out.trans hg)
      have b4 := Hd.mk (b3.out.ins (hi.mono (show 5 * (u0) ≤ 10 by omega)) hn')
      clear hg hi hn' hp
      clear u1 u2
      have hp := s_ends C D4 w7 g7.out.gs b4.out.2.1 (by have h9 := b4.out.2.2; omega) (by have h9 := b4.out.1; omega)
      go_wp2_with fail
      refine hp.mono ?_; rintro e w8 ⟨D5, rfl, hg, hi⟩
      have hnB : 1 ≤ D5.nB := by have := hi.2.2.2.1; omega
      have g8 := Hd.mk (g7.out.trans hg)
      clear hg hi hp
      have j1 := g8.out.gs.at 1
      have j2 := g8.out.gs.at 2
      have j3 := g8.out.gs.at 3
      simp [GD.cells] at j1 j2 j3
      obtain ⟨A1, n1, v1, -, -, -, -⟩ := own_shape g8.out.gs.oP
      obtain ⟨A3, n3, v3, -, -, -, -⟩ := own_shape g8.out.gs.oB
      rw [v1] at j1
      rw [v3] at j3
      have hrh := (g8.out.fk.block w.heap.size (Array.getElem?_eq_some_iff.1 hro2.out).1 (fun e => by have c1 := c1'.out; have c4 := c4'.out; rcases hga.out _ e with e | e <;> omega)).trans hro2.out
      have hzr := (Array.getElem?_eq_some_iff.1 hrh).1
      have hrb := row_facts hrh
      have y0 := hrb.1 0
      have y1 := hrb.1 1
      have y2 := hrb.1 2
      have yf := hrb.2
      simp at y0 y1 y2
      have hfe := g8.out.gs.func hnB
      rw [v1, v3] at hfe
      have hfe' := Hd.mk hfe
      have hrsK := Hd.mk (show RdS C.lo w8 C.gr from g8.out.gs.rs)
      have hfk := Hd.mk (g8.out.fk)
      have hlk := g8.out.gs.lt
      clear hrb hfe hrh v1 v3
      go_wp2
      refine bodyPost_ret (v := .agg #[.slice A1 D5.ps.length n1, .int .i64 D5.ret, .slice A3 D5.nB n3]) (by simp [results, Tryz.results78, go_sem, y0, y1, y2]) rfl ⟨_, rfl, hfe'.out.go (fr3 (w := w8) (b := w.heap.size) (fun q => q < C.fl ∨ w8.heap.size ≤ q) _ _ _ (.inl (by have c1 := c1'.out; have c4 := c4'.out; omega))) (fun q e => .inl ?_), ?_, ?_⟩
      · rcases e with e | e
        · exact .inl (by have c1 := c1'.out; have c4 := c4'.out; omega)
        · exact .inr (by simpa [World.setCell] using e)
      · exact hrsK.out.fr (fr3 (fun q => q = w.heap.size) _ _ _ rfl) hgl (Nat.le_refl _)
      · exact fr_gb ((hF2'.out.go hfk.out fun q e => .inl (by rcases hga.out _ e with e | e; exact .inl e; exact .inr (by have c1 := c1'.out; have c4 := c4'.out; omega))).go (fr3 (fun q => q = w.heap.size) _ _ _ rfl) fun q e => .inl (.inr (by rw [e]; exact Nat.le_refl _)))
    · have hp := s_fork C D2 w4 g4.out.gs b2.out.2.1 (by have h9 := b2.out.2.2; omega) (by have h9 := b2.out.1; omega)
      go_wp2_with fail
      refine hp.mono ?_; rintro e w5 ⟨D3, rfl, hg, hi⟩
      have g5 := Hd.mk (g4.out.trans hg)
      have b3 := Hd.mk (b2.out.blk hi)
      clear hg hi hp
      have hp := s_below C.lo C.gr 3 w5 g5.out.gs.rs (by omega)
      go_wp2_with fail
      refine hp.mono ?_; rintro e w6 ⟨v, rfl, ⟨s0, rfl, s1, s2⟩, hr, hg⟩
      have g6 := Hd.mk (g5.out.trans (g5.out.gs.rd hg hr))
      clear hr hg hp
      have hp := s_some C D3 (s0) w6 g6.out.gs b3.out.2.1 (by have h9 := b3.out.2.2; omega) (by omega)
      go_wp2_with fail
      refine hp.mono ?_; rintro e w7 ⟨D4, rfl, hg, hi, hn'⟩
      have g7 := Hd.mk (g6.out.trans hg)
      have b4 := Hd.mk (b3.out.ins (hi.mono (show 5 * (s0) ≤ 10 by omega)) hn')
      clear hg hi hn' hp
      clear s1 s2
      have hp := s_loop C D4 w7 g7.out.gs b4.out.2.1 (by have h9 := b4.out.2.2; omega) (by have h9 := b4.out.1; omega)
      go_wp2_with fail
      refine hp.mono ?_; rintro e w8 ⟨D5, rfl, hg, hi⟩
      have g8 := Hd.mk (g7.out.trans hg)
      have b5 := Hd.mk (b4.out.blk hi)
      clear hg hi hp
      have hp := s_below C.lo C.gr 3 w8 g8.out.gs.rs (by omega)
      go_wp2_with fail
      refine hp.mono ?_; rintro e w9 ⟨v, rfl, ⟨u0, rfl, u1, u2⟩, hr, hg⟩
      have g9 := Hd.mk (g8.out.trans (g8.out.gs.rd hg hr))
      clear hr hg hp
      have hp := s_some C D5 (u0) w9 g9.out.gs b5.out.2.1 (by have h9 := b5.out.2.2; omega) (by omega)
      go_wp2_with fail
      refine hp.mono ?_; rintro e w10 ⟨D6, rfl, hg, hi, hn'⟩
      have g10 := Hd.mk (g9.out.trans hg)
      have b6 := Hd.mk (b5.out.ins (hi.mono (show 5 * (u0) ≤ 10 by omega)) hn')
      clear hg hi hn' hp
      clear u1 u2
      have hp := s_ends C D6 w10 g10.out.gs b6.out.2.1 (by have h9 := b6.out.2.2; omega) (by have h9 := b6.out.1; omega)
      go_wp2_with fail
      refine hp.mono ?_; rintro e w11 ⟨D7, rfl, hg, hi⟩
      have hnB : 1 ≤ D7.nB := by have := hi.2.2.2.1; omega
      have g11 := Hd.mk (g10.out.trans hg)
      clear hg hi hp
      have j1 := g11.out.gs.at 1
      have j2 := g11.out.gs.at 2
      have j3 := g11.out.gs.at 3
      simp [GD.cells] at j1 j2 j3
      obtain ⟨A1, n1, v1, -, -, -, -⟩ := own_shape g11.out.gs.oP
      obtain ⟨A3, n3, v3, -, -, -, -⟩ := own_shape g11.out.gs.oB
      rw [v1] at j1
      rw [v3] at j3
      have hrh := (g11.out.fk.block w.heap.size (Array.getElem?_eq_some_iff.1 hro2.out).1 (fun e => by have c1 := c1'.out; have c4 := c4'.out; rcases hga.out _ e with e | e <;> omega)).trans hro2.out
      have hzr := (Array.getElem?_eq_some_iff.1 hrh).1
      have hrb := row_facts hrh
      have y0 := hrb.1 0
      have y1 := hrb.1 1
      have y2 := hrb.1 2
      have yf := hrb.2
      simp at y0 y1 y2
      have hfe := g11.out.gs.func hnB
      rw [v1, v3] at hfe
      have hfe' := Hd.mk hfe
      have hrsK := Hd.mk (show RdS C.lo w11 C.gr from g11.out.gs.rs)
      have hfk := Hd.mk (g11.out.fk)
      have hlk := g11.out.gs.lt
      clear hrb hfe hrh v1 v3
      go_wp2
      refine bodyPost_ret (v := .agg #[.slice A1 D7.ps.length n1, .int .i64 D7.ret, .slice A3 D7.nB n3]) (by simp [results, Tryz.results78, go_sem, y0, y1, y2]) rfl ⟨_, rfl, hfe'.out.go (fr3 (w := w11) (b := w.heap.size) (fun q => q < C.fl ∨ w11.heap.size ≤ q) _ _ _ (.inl (by have c1 := c1'.out; have c4 := c4'.out; omega))) (fun q e => .inl ?_), ?_, ?_⟩
      · rcases e with e | e
        · exact .inl (by have c1 := c1'.out; have c4 := c4'.out; omega)
        · exact .inr (by simpa [World.setCell] using e)
      · exact hrsK.out.fr (fr3 (fun q => q = w.heap.size) _ _ _ rfl) hgl (Nat.le_refl _)
      · exact fr_gb ((hF2'.out.go hfk.out fun q e => .inl (by rcases hga.out _ e with e | e; exact .inl e; exact .inr (by have c1 := c1'.out; have c4 := c4'.out; omega))).go (fr3 (fun q => q = w.heap.size) _ _ _ rfl) fun q e => .inl (.inr (by rw [e]; exact Nat.le_refl _)))
    · have hp := s_below C.lo C.gr 3 w4 g4.out.gs.rs (by omega)
      go_wp2_with fail
      refine hp.mono ?_; rintro e w5 ⟨v, rfl, ⟨u0, rfl, u1, u2⟩, hr, hg⟩
      have g5 := Hd.mk (g4.out.trans (g4.out.gs.rd hg hr))
      clear hr hg hp
      have hp := s_some C D2 (u0) w5 g5.out.gs b2.out.2.1 (by have h9 := b2.out.2.2; omega) (by omega)
      go_wp2_with fail
      refine hp.mono ?_; rintro e w6 ⟨D3, rfl, hg, hi, hn'⟩
      have g6 := Hd.mk (g5.out.trans hg)
      have b3 := Hd.mk (b2.out.ins (hi.mono (show 5 * (u0) ≤ 10 by omega)) hn')
      clear hg hi hn' hp
      clear u1 u2
      have hp := s_ends C D3 w6 g6.out.gs b3.out.2.1 (by have h9 := b3.out.2.2; omega) (by have h9 := b3.out.1; omega)
      go_wp2_with fail
      refine hp.mono ?_; rintro e w7 ⟨D4, rfl, hg, hi⟩
      have hnB : 1 ≤ D4.nB := by have := hi.2.2.2.1; omega
      have g7 := Hd.mk (g6.out.trans hg)
      clear hg hi hp
      have j1 := g7.out.gs.at 1
      have j2 := g7.out.gs.at 2
      have j3 := g7.out.gs.at 3
      simp [GD.cells] at j1 j2 j3
      obtain ⟨A1, n1, v1, -, -, -, -⟩ := own_shape g7.out.gs.oP
      obtain ⟨A3, n3, v3, -, -, -, -⟩ := own_shape g7.out.gs.oB
      rw [v1] at j1
      rw [v3] at j3
      have hrh := (g7.out.fk.block w.heap.size (Array.getElem?_eq_some_iff.1 hro2.out).1 (fun e => by have c1 := c1'.out; have c4 := c4'.out; rcases hga.out _ e with e | e <;> omega)).trans hro2.out
      have hzr := (Array.getElem?_eq_some_iff.1 hrh).1
      have hrb := row_facts hrh
      have y0 := hrb.1 0
      have y1 := hrb.1 1
      have y2 := hrb.1 2
      have yf := hrb.2
      simp at y0 y1 y2
      have hfe := g7.out.gs.func hnB
      rw [v1, v3] at hfe
      have hfe' := Hd.mk hfe
      have hrsK := Hd.mk (show RdS C.lo w7 C.gr from g7.out.gs.rs)
      have hfk := Hd.mk (g7.out.fk)
      have hlk := g7.out.gs.lt
      clear hrb hfe hrh v1 v3
      go_wp2
      refine bodyPost_ret (v := .agg #[.slice A1 D4.ps.length n1, .int .i64 D4.ret, .slice A3 D4.nB n3]) (by simp [results, Tryz.results78, go_sem, y0, y1, y2]) rfl ⟨_, rfl, hfe'.out.go (fr3 (w := w7) (b := w.heap.size) (fun q => q < C.fl ∨ w7.heap.size ≤ q) _ _ _ (.inl (by have c1 := c1'.out; have c4 := c4'.out; omega))) (fun q e => .inl ?_), ?_, ?_⟩
      · rcases e with e | e
        · exact .inl (by have c1 := c1'.out; have c4 := c4'.out; omega)
        · exact .inr (by simpa [World.setCell] using e)
      · exact hrsK.out.fr (fr3 (fun q => q = w.heap.size) _ _ _ rfl) hgl (Nat.le_refl _)
      · exact fr_gb ((hF2'.out.go hfk.out fun q e => .inl (by rcases hga.out _ e with e | e; exact .inl e; exact .inr (by have c1 := c1'.out; have c4 := c4'.out; omega))).go (fr3 (fun q => q = w.heap.size) _ _ _ rfl) fun q e => .inl (.inr (by rw [e]; exact Nat.le_refl _)))
theorem own_in {w : World} {base e sz n : Nat} {v : Value} {cs : List Value} (h : w.ownsRow base e sz v n cs) : ∀ k, v.ownBlock = some k → base ≤ k ∧ k < w.heap.size := fun k hk => ⟨own_block_ge h k hk, (own_blk h k hk).1⟩
theorem RdS.frN {lo g : Nat} {W W' : World} {E : Nat → Prop} (h : RdS lo W g) (hF : Fr E W W') (hE : ∀ q, q ≤ g → ¬ E q) : RdS lo W' g := by
  have hlt := h.lt
  obtain ⟨h1, A, n, c, p, h2, h3, h4, h5⟩ := h
  refine ⟨h1, A, n, c, p, (hF.block g hlt (hE g (Nat.le_refl _))).trans h2, h3, h4, fun i hi => ?_⟩
  obtain ⟨b, off, q, k1, k2, k3, k4, k5⟩ := h5 i hi
  exact ⟨b, off, q, k1, k2, k3, k4, by rw [← k5]; exact World.cell?_of_block (hF.block b (by omega) (hE b (by omega)))⟩
def PE (M : Nat → Prop) (W : World) (pl : List (List Int)) (pc : List Value) : Prop := ∀ k (hk : k < pl.length), (pl[k].length ≤ 4 ∧ ∀ p ∈ pl[k], isW p) ∧ ∃ A c, pc[k]? = some (.slice A pl[k].length c) ∧ Bx M (fun w => RI lm w (.slice A pl[k].length c) pl[k]) W
theorem PE.go {M M' : Nat → Prop} {W W' : World} {pl : List (List Int)} {pc : List Value} (h : PE M W pl pc) (hF : Fr M W W') (hM : ∀ q, M' q → M q ∨ W.heap.size ≤ q) : PE M' W' pl pc := fun k hk => by
  obtain ⟨h1, A, c, h2, h3⟩ := h k hk
  exact ⟨h1, A, c, h2, h3.go hF hM⟩
theorem PE.app {M : Nat → Prop} {W : World} {pl : List (List Int)} {pc : List Value} (h : PE M W pl pc) (hl : pc.length = pl.length) (ps : List Int) (hp : ps.length ≤ 4 ∧ ∀ p ∈ ps, isW p) (A : Option Addr) (c : Nat) (hb : Bx M (fun w => RI lm w (.slice A ps.length c) ps) W) : PE M W (pl ++ [ps]) (pc ++ [.slice A ps.length c]) := fun k hk => by
  by_cases hlt : k < pl.length
  · obtain ⟨h1, A', c', h2, h3⟩ := h k hlt
    rw [List.getElem_append_left hlt]
    exact ⟨h1, A', c', by rw [List.getElem?_append_left (by omega)]; exact h2, h3⟩
  · obtain rfl : k = pl.length := by simp at hk; omega
    rw [List.getElem_append_right (Nat.le_refl _)]
    simp only [Nat.sub_self, List.getElem_cons_zero]
    exact ⟨hp, A, c, by rw [← hl, List.getElem?_append_right (Nat.le_refl _)]; simp, hb⟩
theorem PE.rd {M E : Nat → Prop} {W : World} {pl : List (List Int)} {pc : List Value} {base : Nat} {v : Value} (ho : W.ownsRow base 24 1 v pl.length pc) (h : PE M W pl pc) (hv : ∀ k, v.ownBlock = some k → ¬ E k) (hE : ∀ q, E q → M q ∨ W.heap.size ≤ q) (hn : pl.length ≤ lm) : Bx E (fun w => Rd lm 1 KL w v pl) W := fun w hw => by
  have ho' := own_fr ho hw hv
  rcases ho'.2 with ⟨rfl, hz⟩ | ⟨g, cap, cur, rfl, h1, h2, h3, h4, h5, h6⟩
  · exact ⟨none, 0, by rw [hz], by omega, hn, fun _ => rfl, fun h0 => absurd h0 (by omega)⟩
  · refine ⟨some ⟨g, 0, none⟩, cap, rfl, h3, hn, fun e => (by cases e), fun _ => ⟨g, 0, rfl, (Array.getElem?_eq_some_iff.1 h2).1, fun i hi => ?_⟩⟩
    obtain ⟨-, A, c, k2, k3⟩ := h i hi
    refine ⟨[.slice A pl[i].length c], ⟨_, rfl, (k3.go (Fr.refl _ _) hE) w hw⟩, rfl, fun j hj => ?_⟩
    obtain rfl : j = 0 := by simpa using hj
    have h7 := World.ownsRow.cellAt ho' i (by omega)
    rw [Nat.zero_add, Nat.mul_one, Nat.add_zero, h7, k2]
    rfl
def FEs (M : Nat → Prop) (W : World) (n : Nat) (cF : List Value) : Prop := ∀ i, i < n → ∃ cs, (∀ j, j < 3 → cF[i * 3 + j]? = cs[j]?) ∧ FE M W cs
theorem FEs.go {M M' : Nat → Prop} {W W' : World} {n : Nat} {cF : List Value} (h : FEs M W n cF) (hF : Fr M W W') (hM : ∀ q, M' q → M q ∨ W.heap.size ≤ q) : FEs M' W' n cF := fun i hi => by
  obtain ⟨cs, h1, h2⟩ := h i hi
  exact ⟨cs, h1, h2.go hF hM⟩
theorem FEs.app {M : Nat → Prop} {W : World} {n : Nat} {cF cs : List Value} (h : FEs M W n cF) (hl : cF.length = n * 3) (hc : FE M W cs) : FEs M W (n + 1) (cF ++ cs) := fun i hi => by
  by_cases h' : i < n
  · obtain ⟨cs', h1, h2⟩ := h i h'
    exact ⟨cs', fun j hj => by rw [List.getElem?_append_left (by omega)]; exact h1 j hj, h2⟩
  · obtain rfl : i = n := by omega
    exact ⟨cs, fun j hj => by rw [List.getElem?_append_right (by omega), hl]; congr 1; omega, hc⟩
theorem FEs.rd {M E : Nat → Prop} {W : World} {n : Nat} {cF : List Value} {base : Nat} {v : Value} (ho : W.ownsRow base 35 3 v n cF) (h : FEs M W n cF) (hv : ∀ k, v.ownBlock = some k → ¬ E k) (hE : ∀ q, E q → M q ∨ W.heap.size ≤ q) (hn : n ≤ lm) : Bx E (fun w => ∃ xs : List XFunc, xs.length = n ∧ (∀ x ∈ xs, okF x) ∧ Rd lm 3 (KFunc lm) w v xs) W :=
  Elt.rd (K := KFunc lm) (P := okF) ho (fun i hi => by
    obtain ⟨cs, h1, h2⟩ := h i hi
    exact ⟨cs, h2.len, h1, fun w hw => ((h2.go (Fr.refl _ _) hE).go hw fun q e => .inl e).kf⟩) hv (by decide) hn
structure MS (lo g : Nat) (w : World) (M : Nat → Prop) (n : Nat) (v4 v5 vF : Value) (rl : List Int) (pl : List (List Int)) (pc cF : List Value) (W : World) : Prop where
  o4 : W.ownsRow w.heap.size 2 1 v4 rl.length (rl.map (.int .i64))
  o5 : W.ownsRow w.heap.size 24 1 v5 pl.length pc
  oF : W.ownsRow w.heap.size 35 3 vF n cF
  pe : PE M W pl pc
  fe : FEs M W n cF
  mb : W.heap[w.heap.size + 1]? = some (.cells #[vF] 38 (0, 0))
  rb : W.heap[w.heap.size]? = some (.cells #[.slice none 0 0] 38 (0, 0))
  rs : RdS lo W g
  hg : g < w.heap.size
  fr : Fr (fun q => q = g ∨ w.heap.size ≤ q) w W
  mM : ∀ q, (q < w.heap.size ∨ q = w.heap.size ∨ q = w.heap.size + 1 ∨ v4.ownBlock = some q ∨ v5.ownBlock = some q ∨ vF.ownBlock = some q ∨ W.heap.size ≤ q) → M q
section
variable {lo g : Nat} {w : World} {M : Nat → Prop} {n : Nat} {v4 v5 vF : Value} {rl : List Int} {pl : List (List Int)} {pc cF : List Value} {W : World}
theorem MS.lt (h : MS lo g w M n v4 v5 vF rl pl pc cF W) : w.heap.size + 1 < W.heap.size := (Array.getElem?_eq_some_iff.1 h.mb).1
theorem MS.fr' (h : MS lo g w M n v4 v5 vF rl pl pc cF W) {E : Nat → Prop} {W' : World} (hF : Fr E W W') (hE : ∀ q, E q → M q ∧ w.heap.size + 1 < q ∧ v4.ownBlock ≠ some q ∧ v5.ownBlock ≠ some q ∧ vF.ownBlock ≠ some q) : MS lo g w M n v4 v5 vF rl pl pc cF W' := by
  have hM : Fr M W W' := hF.sub fun q e => (hE q e).1
  have hg := h.hg
  have hgW := h.rs.lt
  refine ⟨own_fr h.o4 hF fun k hk e => (hE k e).2.2.1 hk, own_fr h.o5 hF fun k hk e => (hE k e).2.2.2.1 hk, own_fr h.oF hF fun k hk e => (hE k e).2.2.2.2 hk, h.pe.go hM fun q e => .inl e, h.fe.go hM fun q e => .inl e,
    (hF.block _ h.lt fun e => by have := (hE _ e).2.1; omega).trans h.mb, (hF.block _ (by have := h.lt; omega) fun e => by have := (hE _ e).2.1; omega).trans h.rb, ?_, hg, h.fr.go hF fun q e => .inl (.inr (by have := (hE q e).2.1; omega)), fun q e => h.mM q ?_⟩
  · exact h.rs.frN hF fun q hq e => by have := (hE q e).2.1; omega
  · rcases e with e | e | e | e | e | e | e
    · exact .inl e
    · exact .inr (.inl e)
    · exact .inr (.inr (.inl e))
    · exact .inr (.inr (.inr (.inl e)))
    · exact .inr (.inr (.inr (.inr (.inl e))))
    · exact .inr (.inr (.inr (.inr (.inr (.inl e)))))
    · exact .inr (.inr (.inr (.inr (.inr (.inr (Nat.le_trans hF.size e))))))
theorem MS.bl (h : MS lo g w M n v4 v5 vF rl pl pc cF W) {W' : World} (hb : Below W.heap.size W W') : MS lo g w M n v4 v5 vF rl pl pc cF W' := h.fr' (Fr.of (fun _ => False) hb) fun _ e => e.elim
theorem MS.fn (h : MS lo g w M n v4 v5 vF rl pl pc cF W) {W' : World} (hg : W.grownBy W' (some g)) (hr : RdS lo W' g) : MS lo g w (fun q => M q ∧ (q < W.heap.size ∨ W'.heap.size ≤ q)) n v4 v5 vF rl pl pc cF W' := by
  have hF : Fr (fun q => q = g) W W' := (Fr.gb hg).sub fun q e => by injection e with e; exact e.symm
  have hM : Fr M W W' := hF.sub fun q e => h.mM q (.inl (by rw [e]; exact h.hg))
  have hgl := h.hg
  have hlt := h.lt
  have no : ∀ {e sz n : Nat} {v : Value} {cs : List Value}, W.ownsRow w.heap.size e sz v n cs → ∀ k, v.ownBlock = some k → ¬ k = g := fun ho k hk e => by have := own_block_ge ho k hk; omega
  refine ⟨own_fr h.o4 hF (no h.o4), own_fr h.o5 hF (no h.o5), own_fr h.oF hF (no h.oF), h.pe.go hM fun q e => .inl e.1, h.fe.go hM fun q e => .inl e.1, (hF.block _ hlt (by omega)).trans h.mb, (hF.block _ (by omega) (by omega)).trans h.rb, hr, hgl, h.fr.go hF fun q e => .inl (.inl e), fun q e => ?_⟩
  rcases e with e | e | e | e | e | e | e
  · exact ⟨h.mM q (.inl e), .inl (by omega)⟩
  · exact ⟨h.mM q (.inr (.inl e)), .inl (by omega)⟩
  · exact ⟨h.mM q (.inr (.inr (.inl e))), .inl (by omega)⟩
  · exact ⟨h.mM q (.inr (.inr (.inr (.inl e)))), .inl (own_in h.o4 q e).2⟩
  · exact ⟨h.mM q (.inr (.inr (.inr (.inr (.inl e))))), .inl (own_in h.o5 q e).2⟩
  · exact ⟨h.mM q (.inr (.inr (.inr (.inr (.inr (.inl e)))))), .inl (own_in h.oF q e).2⟩
  · exact ⟨h.mM q (.inr (.inr (.inr (.inr (.inr (.inr (Nat.le_trans hF.size e))))))), .inr e⟩
theorem own_noT {w : World} {base e sz n : Nat} {v : Value} {cs : List Value} {b e' : Nat} {arr : Array Value} (h : w.ownsRow base e sz v n cs) (hb : w.heap[b]? = some (.cells arr e' (0, 0))) (hne : e ≠ e') : ∀ k, v.ownBlock = some k → k ≠ b := fun k hk => by
  obtain ⟨-, -, c, hc⟩ := own_blk h k hk
  exact ne_of_cells hc hb hne
theorem MS.app4 (h : MS lo g w M n v4 v5 vF rl pl pc cF W) {W' : World} (x : Int) (v' : Value) (hg : W.grownBy W' v4.ownBlock) (ho : W'.ownsRow w.heap.size 2 1 v' (rl ++ [x]).length ((rl ++ [x]).map (.int .i64))) (hv : v'.ownBlock = v4.ownBlock ∨ v'.ownBlock = some W.heap.size) : MS lo g w M n v' v5 vF (rl ++ [x]) pl pc cF W' := by
  have hF := Fr.gb hg
  have hM : Fr M W W' := hF.sub fun q e => h.mM q (.inr (.inr (.inr (.inl e))))
  have hgl := h.hg
  have hlt := h.lt
  refine ⟨ho, own_fr h.o5 hF (own_two h.o5 h.o4 (by decide)), own_fr h.oF hF (own_two h.oF h.o4 (by decide)), h.pe.go hM fun q e => .inl e, h.fe.go hM fun q e => .inl e, (hF.block _ hlt fun e => own_noT h.o4 h.mb (by decide) _ e rfl).trans h.mb, (hF.block _ (by omega) fun e => own_noT h.o4 h.rb (by decide) _ e rfl).trans h.rb,
    h.rs.frN hF fun q hq e => by have := own_block_ge h.o4 q e; omega, hgl, h.fr.go hF fun q e => .inl (.inr (own_block_ge h.o4 q e)), fun q e => h.mM q ?_⟩
  rcases e with e | e | e | e | e | e | e
  · exact .inl e
  · exact .inr (.inl e)
  · exact .inr (.inr (.inl e))
  · rcases hv with hv | hv
    · exact .inr (.inr (.inr (.inl (hv ▸ e))))
    · rw [hv] at e; injection e with e; exact .inr (.inr (.inr (.inr (.inr (.inr (by omega))))))
  · exact .inr (.inr (.inr (.inr (.inl e))))
  · exact .inr (.inr (.inr (.inr (.inr (.inl e)))))
  · exact .inr (.inr (.inr (.inr (.inr (.inr (Nat.le_trans hF.size e))))))
theorem MS.app5 (h : MS lo g w M n v4 v5 vF rl pl pc cF W) {W' : World} (ps : List Int) (hp : ps.length ≤ 4 ∧ ∀ p ∈ ps, isW p) (A : Option Addr) (c : Nat) (hb : Bx M (fun w => RI lm w (.slice A ps.length c) ps) W) (v' : Value) (hg : W.grownBy W' v5.ownBlock) (ho : W'.ownsRow w.heap.size 24 1 v' (pl.length + 1) (pc ++ [.slice A ps.length c])) (hv : v'.ownBlock = v5.ownBlock ∨ v'.ownBlock = some W.heap.size) : MS lo g w M n v4 v' vF rl (pl ++ [ps]) (pc ++ [.slice A ps.length c]) cF W' := by
  have hF := Fr.gb hg
  have hM : Fr M W W' := hF.sub fun q e => h.mM q (.inr (.inr (.inr (.inr (.inl e)))))
  have hgl := h.hg
  have hlt := h.lt
  refine ⟨own_fr h.o4 hF (own_two h.o4 h.o5 (by decide)), by simpa using ho, own_fr h.oF hF (own_two h.oF h.o5 (by decide)), (h.pe.app (by have := h.o5.1; omega) ps hp A c hb).go hM fun q e => .inl e, h.fe.go hM fun q e => .inl e, (hF.block _ hlt fun e => own_noT h.o5 h.mb (by decide) _ e rfl).trans h.mb, (hF.block _ (by omega) fun e => own_noT h.o5 h.rb (by decide) _ e rfl).trans h.rb,
    h.rs.frN hF fun q hq e => by have := own_block_ge h.o5 q e; omega, hgl, h.fr.go hF fun q e => .inl (.inr (own_block_ge h.o5 q e)), fun q e => h.mM q ?_⟩
  rcases e with e | e | e | e | e | e | e
  · exact .inl e
  · exact .inr (.inl e)
  · exact .inr (.inr (.inl e))
  · exact .inr (.inr (.inr (.inl e)))
  · rcases hv with hv | hv
    · exact .inr (.inr (.inr (.inr (.inl (hv ▸ e)))))
    · rw [hv] at e; injection e with e; exact .inr (.inr (.inr (.inr (.inr (.inr (by omega))))))
  · exact .inr (.inr (.inr (.inr (.inr (.inl e)))))
  · exact .inr (.inr (.inr (.inr (.inr (.inr (Nat.le_trans hF.size e))))))
theorem MS.appF (h : MS lo g w M n v4 v5 vF rl pl pc cF W) {W' : World} (cs : List Value) (hc : FE M W cs) (v' : Value) (hg : W.grownBy W' vF.ownBlock) (ho : W'.ownsRow w.heap.size 35 3 v' (n + 1) (cF ++ cs)) (hv : v'.ownBlock = vF.ownBlock ∨ v'.ownBlock = some W.heap.size) : MS lo g w M (n + 1) v4 v5 v' rl pl pc (cF ++ cs) (W'.setCell ⟨w.heap.size + 1, 0, none⟩ v') := by
  have hF1 := Fr.gb hg
  have hlt := h.lt
  have hmb1 := (hF1.block _ hlt fun e => own_noT h.oF h.mb (by decide) _ e rfl).trans h.mb
  have hF : Fr (fun q => vF.ownBlock = some q ∨ q = w.heap.size + 1) W (W'.setCell ⟨w.heap.size + 1, 0, none⟩ v') := (hF1.sub fun q e => .inl e).go (Fr.set W' (w.heap.size + 1) 0 v') fun q e => .inl (.inr e)
  have hM : Fr M W (W'.setCell ⟨w.heap.size + 1, 0, none⟩ v') := hF.sub fun q e => by
    rcases e with e | e
    · exact h.mM q (.inr (.inr (.inr (.inr (.inr (.inl e))))))
    · exact h.mM q (.inr (.inr (.inl e)))
  have hgl := h.hg
  have no : ∀ {e sz n : Nat} {v : Value} {cs : List Value}, W.ownsRow w.heap.size e sz v n cs → e ≠ 35 → e ≠ 38 → ∀ k, v.ownBlock = some k → ¬ (vF.ownBlock = some k ∨ k = w.heap.size + 1) := fun ho' h1 h2 k hk e => by
    rcases e with e | e
    · exact own_two ho' h.oF h1 k hk e
    · exact own_noT ho' h.mb h2 k hk e
  refine ⟨own_fr h.o4 hF (no h.o4 (by decide) (by decide)), own_fr h.o5 hF (no h.o5 (by decide) (by decide)), own_fr ho (Fr.set W' (w.heap.size + 1) 0 v') fun k hk e => own_noT ho hmb1 (by decide) k hk e, h.pe.go hM fun q e => .inl e, (h.fe.app h.oF.1 hc).go hM fun q e => .inl e, (heap_set hmb1).trans (by simp), (hF.block _ (by omega) fun e => by
      rcases e with e | e
      · exact own_noT h.oF h.rb (by decide) _ e rfl
      · omega).trans h.rb,
    h.rs.frN hF fun q hq e => by
      rcases e with e | e
      · have := own_block_ge h.oF q e; omega
      · omega, hgl, h.fr.go hF fun q e => .inl (.inr (by
      rcases e with e | e
      · exact own_block_ge h.oF q e
      · omega)), fun q e => h.mM q ?_⟩
  rcases e with e | e | e | e | e | e | e
  · exact .inl e
  · exact .inr (.inl e)
  · exact .inr (.inr (.inl e))
  · exact .inr (.inr (.inr (.inl e)))
  · exact .inr (.inr (.inr (.inr (.inl e))))
  · rcases hv with hv | hv
    · exact .inr (.inr (.inr (.inr (.inr (.inl (hv ▸ e))))))
    · rw [hv] at e; injection e with e; exact .inr (.inr (.inr (.inr (.inr (.inr (by omega))))))
  · exact .inr (.inr (.inr (.inr (.inr (.inr (Nat.le_trans hF.size e))))))
theorem MS.nar (h : MS lo g w M n v4 v5 vF rl pl pc cF W) {k : Nat} (hk : (w.heap.size + 1 < k ∧ (∀ q, v4.ownBlock = some q → q < k) ∧ (∀ q, v5.ownBlock = some q → q < k) ∧ ∀ q, vF.ownBlock = some q → q < k)) : MS lo g w (fun q => M q ∧ (q < k ∨ W.heap.size ≤ q)) n v4 v5 vF rl pl pc cF W := by
  have hgl := h.hg
  refine ⟨h.o4, h.o5, h.oF, h.pe.go (Fr.refl _ _) fun q e => .inl e.1, h.fe.go (Fr.refl _ _) fun q e => .inl e.1, h.mb, h.rb, h.rs, h.hg, h.fr, fun q e => ⟨h.mM q e, ?_⟩⟩
  rcases e with e | e | e | e | e | e | e
  · exact .inl (by omega)
  · exact .inl (by omega)
  · exact .inl (by omega)
  · exact .inl (hk.2.1 q e)
  · exact .inl (hk.2.2.1 q e)
  · exact .inl (hk.2.2.2 q e)
  · exact .inr e
theorem MS.fr4 (h : MS lo g w M n v4 v5 vF rl pl pc cF W) {W' : World} (hg : W.grownBy W' v4.ownBlock) : Fr M W W' := (Fr.gb hg).sub fun q e => h.mM q (.inr (.inr (.inr (.inl e))))
theorem MS.frF (h : MS lo g w M n v4 v5 vF rl pl pc cF W) {W' : World} (hg : W.grownBy W' vF.ownBlock) (v' : Value) : Fr M W (W'.setCell ⟨w.heap.size + 1, 0, none⟩ v') :=
  ((Fr.gb hg).sub fun q e => h.mM q (.inr (.inr (.inr (.inr (.inr (.inl e))))))).go ((Fr.set W' (w.heap.size + 1) 0 v').sub (E' := M) fun q e => h.mM q (.inr (.inr (.inl e)))) fun q e => .inl e
end
def RetM (lo g : Nat) (w : World) (e : Ending) (w' : World) : Prop := ∃ (v : Value) (n : Nat) (cF : List Value), e = .returned (.agg #[v]) ∧ (1 ≤ n ∧ n ≤ 2) ∧ w'.ownsRow w.heap.size 35 3 v n cF ∧ FEs (fun q => q < w.heap.size ∨ w'.heap.size ≤ q) w' n cF ∧ RdS lo w' g ∧ w.grownBy w' (some g)
theorem infoFn : (Tryz.prog.info? 35).map (fun i => (i.zero, i.size, i.bytes)) = some (some (.agg #[.slice none 0 0, .int .i64 0, .slice none 0 0]), 3, 56) := by kernel_rfl
theorem infoIs : (Tryz.prog.info? 24).map (fun i => (i.zero, i.size, i.bytes)) = some (some (.slice none 0 0), 1, 24) := by kernel_rfl
theorem lit_fe {W : World} {M : Nat → Prop} {b1 b2 : Nat} (h1 : W.heap[b1]? = some (.cells #[.int .i64 21, .int .i64 8, .int .i64 0, .int .i64 0, .int .i64 0, .int .i64 7, .slice none 0 0] 26 (0, 0)))
    (h2 : W.heap[b2]? = some (.cells #[.slice none 0 0, .slice (some ⟨b1, 0, none⟩) 1 1, .int .i64 1, .int .i64 0, .int .i64 0, .int .i64 0] 32 (0, 0))) (m1 : ¬ M b1) (m2 : ¬ M b2) : FE M W [.slice none 0 0, .int .i64 8, .slice (some ⟨b2, 0, none⟩) 1 1] := by
  refine ⟨none, 0, [], 8, _, rfl, ⟨by decide, fun p hp => by cases hp⟩, rfl, fun w hF => rd_nilK, fun w hF => ?_⟩
  have k1 := (hF.block b1 (Array.getElem?_eq_some_iff.1 h1).1 m1).trans h1
  have k2 := (hF.block b2 (Array.getElem?_eq_some_iff.1 h2).1 m2).trans h2
  have r1 : Rd lm 7 (KInst lm) w (.slice (some ⟨b1, 0, none⟩) 1 1) [⟨21, 8, 0, 0, 0, 7, []⟩] := rd_new _ rfl (by decide) (Array.getElem?_eq_some_iff.1 k1).1 (fun i hi => match i, hi with
    | 0, _ => ⟨_, ⟨_, rfl, rd_nilK⟩, rfl, fun j hj => ((row_facts k1).1 _).trans (at_mid [] [.int .i64 21, .int .i64 8, .int .i64 0, .int .i64 0, .int .i64 0, .int .i64 7, .slice none 0 0] [] j hj)⟩)
  refine ⟨[⟨[], [⟨21, 8, 0, 0, 0, 7, []⟩], ⟨1, 0, 0, 0⟩⟩], ⟨by decide, by decide⟩, fun x hx => ?_, rd_new _ rfl (by decide) (Array.getElem?_eq_some_iff.1 k2).1 (fun i hi => match i, hi with
    | 0, _ => ⟨_, ⟨_, _, rfl, rd_nilK, r1⟩, rfl, fun j hj => ((row_facts k2).1 _).trans (at_mid [] [.slice none 0 0, .slice (some ⟨b1, 0, none⟩) 1 1, .int .i64 1, .int .i64 0, .int .i64 0, .int .i64 0] [] j hj)⟩)⟩
  rw [List.mem_singleton.1 hx]
  exact ⟨by decide, by decide⟩
set_option maxRecDepth 40000 in
set_option maxHeartbeats 40000000 in
theorem s_module (lo g : Nat) (w : World) (h : RdS lo w g) : Calls Tryz.prog 51 #[.pointer (some ⟨g, 0, none⟩)] w (RetM lo g w) := by
  have hgl := h.lt
  obtain ⟨Wb, hWb⟩ : ∃ Wb : World, Wb = (((w.alloc (.cells #[.slice none 0 0] 38)).alloc (.cells #[.slice none 0 0] 38)).alloc (.cells #[] 2)).alloc (.cells #[] 24) := ⟨_, rfl⟩
  have hzb : Wb.heap.size = w.heap.size + 4 := by rw [hWb]; simp
  have hBb : Below w.heap.size w Wb := by rw [hWb]; exact ((((Below.refl w.heap.size w).al (Nat.le_refl _) _).al (by simp) _).al (by simp <;> omega) _).al (by simp <;> omega) _
  have hms : MS lo g w (fun _ => True) 0 (.slice (some ⟨w.heap.size + 1 + 1, 0, none⟩) 0 0) (.slice (some ⟨w.heap.size + 1 + 1 + 1, 0, none⟩) 0 0) (.slice none 0 0) [] [] [] [] Wb := by
    refine ⟨?_, ?_, nil_own _ _ _ _, fun k hk => absurd hk (by simp), fun i hi => absurd hi (Nat.not_lt_zero _), ?_, ?_, ?_, hgl, Fr.of _ hBb, fun q _ => trivial⟩
    · rw [hWb]; exact own_mv (own_empty _ _ _ _ _ (by simp) (by simp <;> omega)) ((Below.refl _ _).al (Nat.le_refl _) _)
    · rw [hWb]; exact own_empty _ _ _ _ _ (by simp) (by simp <;> omega)
    · rw [hWb]; exact heap_old (heap_old (heap_new _ _ _ _ (by simp)) (by simp)) (by simp)
    · rw [hWb]; exact heap_old (heap_old (heap_old (heap_new _ _ _ _ rfl) (by simp)) (by simp <;> omega)) (by simp <;> omega)
    · rw [hWb]; exact (((h.al _).al _).al _).al _
  have hms' := Hd.mk hms
  have hp := s_below lo g 2 Wb hms.rs (by omega)
  have hWb' := Hd.mk hWb
  clear hWb h hms hBb
  go_enter Tryz.func51, Tryz.ntmps51
  go_wp2_with fail
  rw [← hWb'.out]
  refine hp.mono ?_; rintro e w1 ⟨v, rfl, ⟨q, rfl, q1, q2⟩, hr, hg⟩
  have hm1 := Hd.mk (hms'.out.fn hg hr)
  obtain ⟨M1, hM1⟩ : ∃ M1 : Nat → Prop, M1 = (fun q => True ∧ (q < Wb.heap.size ∨ w1.heap.size ≤ q)) := ⟨_, rfl⟩
  rw [← hM1] at hm1
  have hq01 : q = 0 ∨ q = 1 := by omega
  obtain ⟨i0, hi0, hi1, hi2⟩ : ∃ i : Nat, IntKind.i64.wrap (1 + q) = (i : Int) ∧ 1 ≤ i ∧ i ≤ 2 := by
    rcases hq01 with rfl | rfl
    · exact ⟨1, rfl, by omega, by omega⟩
    · exact ⟨2, rfl, by omega, by omega⟩
  clear hr hg hp hM1 hms' hq01 q1 q2 hWb'
  go_wp2
  go_loopw [4, 5, 6] (fun s4 s5 s6 wr => ∃ (i n : Nat) (M : Nat → Prop) (vF : Value) (rl : List Int) (pl : List (List Int)) (pc cF : List Value), i + n ≤ 2 ∧ 1 ≤ i + n ∧ s6 = .int .i64 i ∧ Hd (rl.length = n ∧ pl.length = n) ∧ Hd (MS lo g w M n s4 s5 vF rl pl pc cF wr)) (fun _ _ s6 _ => (intOf s6).toNat)
  case atStart => exact ⟨i0, 0, M1, _, [], [], [], [], by omega, by omega, rfl, ⟨rfl, rfl⟩, hm1⟩
  case round =>
    obtain ⟨i, n, M, vF, rl, pl, pc, cF, hn2, hn1, rfl, hln, hms⟩ := hrel
    clear hm1 hi0
    by_cases hi0 : 0 < i
    · obtain ⟨j, rfl⟩ : ∃ j, i = j + 1 := ⟨i - 1, by omega⟩
      have hpos : (0 : Int) < ((j + 1 : Nat) : Int) := by omega
      have hwj : IntKind.i64.wrap (((j + 1 : Nat) : Int) - 1) = (j : Int) := by rw [IntWalk.i64_in _ (by omega)]; omega
      obtain ⟨Ar, cr, rfl, -, -, -, -⟩ := own_shape hms.out.o4
      obtain ⟨Ap, cp, rfl, -, -, -, -⟩ := own_shape hms.out.o5
      have hb4 := Hd.mk fun k hk => own_in hms.out.o4 k hk
      have hb5 := Hd.mk fun k hk => own_in hms.out.o5 k hk
      have hbF := Hd.mk fun k hk => own_in hms.out.oF k hk
      have hl45 : pl.length = rl.length := by have := hln.out; omega
      have hp0 := s_fn lo g Ar Ap cr cp pl wr hms.out.rs
        (fun W hF => ⟨rl, by have := hln.out; omega, trivial, by
          have hr := (OwI.of (own_fr hms.out.o4 hF (fun k hk e => by have := hb4.out k hk; omega))).rd (by have := hln.out; show _ ≤ 1048576; omega)
          rw [show pl.length = rl.length by have := hln.out; omega]; exact hr⟩)
        (PE.rd hms.out.o5 hms.out.pe (fun k hk e => by have := hb5.out k hk; omega) (fun q e => e.imp (fun e => hms.out.mM q (.inl (by rw [e]; exact hms.out.hg))) id) (by have := hln.out; show _ ≤ 1048576; omega)) (by have := hln.out; omega) (fun x hx => by
          obtain ⟨k, hk, rfl⟩ := List.mem_iff_getElem.1 hx
          exact (hms.out.pe k hk).1)
      have hp : Calls Tryz.prog 78 #[.pointer (some ⟨g, 0, none⟩), .slice Ar rl.length cr, .slice Ap pl.length cp] wr (RetF lo g wr) := by
        rw [hl45] at hp0 ⊢
        exact hp0
      clear hp0 hl45
      go_wp2_with fail
      refine hp.mono ?_; rintro e w3 ⟨cs, rfl, hfe, hr, hg⟩
      have hm3 := Hd.mk (hms.out.fn hg hr)
      have hz3 := hg.size
      have hfM := hfe.go (Fr.refl _ _) (M' := fun q => M q ∧ (q < wr.heap.size ∨ w3.heap.size ≤ q)) fun q e => .inl e.2
      obtain ⟨M3, hM3⟩ : ∃ M3 : Nat → Prop, M3 = (fun q => M q ∧ (q < wr.heap.size ∨ w3.heap.size ≤ q)) := ⟨_, rfl⟩
      rw [← hM3] at hm3 hfM
      obtain ⟨A, c, ps, ret, vB, rfl, hps, h1B, hq1, hq2⟩ := hfM
      obtain ⟨xs, hxl, -, hxr⟩ := hq2.out
      obtain ⟨A3, c3, rfl, -, -, -⟩ := hxr.sm
      have hk := Hd.mk (show KFunc lm w3 ⟨ps, ret, xs⟩ [.slice A ps.length c, .int .i64 ret, .slice A3 xs.length c3] from ⟨_, _, rfl, hq1.out, hxr⟩)
      have hfM' := Hd.mk (show FE M3 w3 [.slice A ps.length c, .int .i64 ret, .slice A3 xs.length c3] from ⟨A, c, ps, ret, _, rfl, hps, h1B, hq1, hq2⟩)
      have hal := Hd.mk fun (o : Obj) => (Below.refl w3.heap.size w3).al (Nat.le_refl _) o
      have hp := s_CountOf ⟨ps, ret, xs⟩ [.slice A ps.length c, .int .i64 ret, .slice A3 xs.length c3] (w3.alloc (.cells #[.slice A ps.length c, .int .i64 ret, .slice A3 xs.length c3] 35)) (KM.mv hk.out (hal.out _))
      have hMge := Hd.mk fun q (e : w3.heap.size ≤ q) => hm3.out.mM q (.inr (.inr (.inr (.inr (.inr (.inr e))))))
      have hq1h := Hd.mk hq1
      clear hms hr hg hfe hM3 hq1 hq2 hxr
      go_wp2_with fail
      refine hp.mono ?_; rintro e w4 ⟨rfl, hb⟩
      have hB4 := (hal.out (.cells #[.slice A ps.length c, .int .i64 ret, .slice A3 xs.length c3] 35)).then hb
      have hfb := (hb.block w3.heap.size (by simp)).trans (heap_new w3 #[.slice A ps.length c, .int .i64 ret, .slice A3 xs.length c3] 35 _ rfl)
      have hm4 := Hd.mk (hm3.out.bl hB4)
      have hf4 := Hd.mk (hfM'.out.go (Fr.of _ hB4) fun q e => .inl e)
      have hq1x := Hd.mk (Bx.go hq1h.out (Fr.of M3 hB4) fun q e => .inl e)
      have hfb4 := Hd.mk hfb
      have hz4 : w3.heap.size < w4.heap.size := (Array.getElem?_eq_some_iff.1 hfb).1
      have x2 := (row_facts hfb).1 2
      have xf := (row_facts hfb).2
      have x0 := (row_facts hfb).1 0
      have x1 := (row_facts hfb).1 1
      simp at x0 x1 x2
      have hltm := hm4.out.lt
      have hzw : w.heap.size + 1 < w3.heap.size := hm3.out.lt
      clear hb hB4 hfb hp hk hfM' hq1h
      generalize hco : countOf ⟨ps, ret, xs⟩ = co at *
      clear hco
      by_cases hc60 : 60 < co
      · have hqx := hq1x
        have m4 := (row_facts hm4.out.mb).1 0
        simp at m4
        have hne4 : w.heap.size + 1 ≠ w3.heap.size := by omega
        have hne5 : w3.heap.size ≠ w.heap.size + 1 := by omega
        obtain ⟨W5, hW5⟩ : ∃ W5 : World, W5 = ((((w4.setCell ⟨w3.heap.size, 0, none⟩ (.slice none 0 0)).setCell ⟨w3.heap.size, 1, none⟩ (.int .i64 8)).setCell ⟨w3.heap.size, 2, none⟩ (.slice (some ⟨w4.heap.size + 1, 0, none⟩) 1 1)).alloc (.cells #[.int .i64 21, .int .i64 8, .int .i64 0, .int .i64 0, .int .i64 0, .int .i64 7, .slice none 0 0] 26)).alloc (.cells #[.slice none 0 0, .slice (some ⟨w4.heap.size, 0, none⟩) 1 1, .int .i64 1, .int .i64 0, .int .i64 0, .int .i64 0] 32) := ⟨_, rfl⟩
        have hz5' : W5.heap.size = w4.heap.size + 1 + 1 := by rw [hW5]; simp [World.setCell]
        have hF45 : Fr (fun q => q = w3.heap.size) w4 W5 := by
          rw [hW5]
          exact (((Fr.set w4 w3.heap.size 0 _).go (Fr.set _ w3.heap.size 1 _) fun q e => .inl e).go (Fr.set _ w3.heap.size 2 _) fun q e => .inl e).then (((Below.refl _ _).al (Nat.le_refl _) _).al (by simp) _)
        have h5I : W5.heap[w4.heap.size]? = some (.cells #[.int .i64 21, .int .i64 8, .int .i64 0, .int .i64 0, .int .i64 0, .int .i64 7, .slice none 0 0] 26 (0, 0)) := by
          rw [hW5]
          exact heap_old (heap_new _ _ _ _ (by simp [World.setCell])) (by simp [World.setCell])
        have h5B : W5.heap[w4.heap.size + 1]? = some (.cells #[.slice none 0 0, .slice (some ⟨w4.heap.size, 0, none⟩) 1 1, .int .i64 1, .int .i64 0, .int .i64 0, .int .i64 0] 32 (0, 0)) := by
          rw [hW5]
          exact heap_new _ _ _ _ (by simp [World.setCell])
        have hfb5 : Hd (W5.heap[w3.heap.size]? = some (.cells #[.slice none 0 0, .int .i64 8, .slice (some ⟨w4.heap.size + 1, 0, none⟩) 1 1] 35 (0, 0))) := ⟨by
          rw [hW5]
          exact (heap_old (heap_old (heap_set (heap_set (heap_set hfb4.out))) (by simp [World.setCell]; omega)) (by simp [World.setCell]; omega)).trans (by simp)⟩
        have hb4F := hm4.out.fr
        have hm5L := Hd.mk (hm4.out.fr' hF45 fun q e => by
          subst e
          exact ⟨hMge.out _ (Nat.le_refl _), hzw, fun e => by have := (own_in hm3.out.o4 _ e).2; omega, fun e => by have := (own_in hm3.out.o5 _ e).2; omega, fun e => by have := (own_in hm3.out.oF _ e).2; omega⟩)
        obtain ⟨ML, hML⟩ : ∃ ML : Nat → Prop, ML = (fun q => M3 q ∧ (q < w4.heap.size ∨ W5.heap.size ≤ q)) := ⟨_, rfl⟩
        have hm5N := Hd.mk (show MS lo g w ML n _ _ vF rl pl pc cF W5 from by rw [hML]; exact hm5L.out.nar ⟨by omega, fun q e => by have := (own_in hm3.out.o4 q e).2; omega, fun q e => by have := (own_in hm3.out.o5 q e).2; omega, fun q e => by have := (own_in hm3.out.oF q e).2; omega⟩)
        have hfeL := Hd.mk (lit_fe (M := ML) h5I h5B (by rw [hML]; rintro ⟨-, e⟩; omega) (by rw [hML]; rintro ⟨-, e⟩; omega))
        have hqL := Hd.mk (show Bx ML (fun w => RI lm w (.slice none ([] : List Int).length 0) []) W5 from fun w hF => rd_nilK)
        have hW5' := Hd.mk hW5
        clear hF45 h5I h5B hb4F hW5 hML hm5L
        obtain ⟨AF, cF', rfl, -, -, -, -⟩ := own_shape hm5N.out.oF
        have m0 := (row_facts hm5N.out.mb).1 0
        have mf := (row_facts hm5N.out.mb).2
        simp at m0
        have y0 := (row_facts hfb5.out).1 0
        have y1 := (row_facts hfb5.out).1 1
        have y2 := (row_facts hfb5.out).1 2
        simp at y0 y1 y2
        have hz5h := Hd.mk hz5'
        have hs1 : w.heap.size < w4.heap.size := by omega
        have hs2 : w.heap.size < w4.heap.size + 1 := by omega
        have hs3 : w3.heap.size < w4.heap.size + 1 := by omega
        have hs4 : w3.heap.size < w4.heap.size + 1 + 1 := by omega
        have hal5 := Hd.mk fun (o : Obj) => (Below.refl W5.heap.size W5).al (Nat.le_refl _) o
        have hlm5 := hm5N.out.lt
        have hz5 : w3.heap.size < W5.heap.size := (Array.getElem?_eq_some_iff.1 hfb5.out).1
        have hone : Hd (∀ u ∈ ([.slice none 0 0, .int .i64 8, .slice (some ⟨w4.heap.size + 1, 0, none⟩) 1 1] : List Value), u.oneCell' = true) := ⟨by
          intro u hu
          simp only [List.mem_cons, List.not_mem_nil, or_false] at hu
          rcases hu with rfl | rfl | rfl <;> rfl⟩
        have hm0' := Hd.mk m0
        have hm1' := Hd.mk mf
        have hlm' := Hd.mk hlm5
        have hz' := Hd.mk hz5
        clear hz5' m0 mf y0 y1 y2 hlm5 hz5
        go_wp2_with (at_builtin; rw [← hW5'.out]; refine appE_at rfl _ _ rfl Tryz.underlying36 infoFn rfl (by decide) (by decide) w.heap.size _ n cF rfl (own_mv hm5N.out.oF (hal5.out _)) (w4.heap.size + 1 + 1) _ rfl [.slice none 0 0, .int .i64 8, .slice (some ⟨w4.heap.size + 1, 0, none⟩) 1 1] rfl (fun j u hu => new_cell W5 #[.slice none 0 0, .int .i64 8, .slice (some ⟨w4.heap.size + 1, 0, none⟩) 1 1] 35 (by first | rfl | exact hz5h.out.symm) j u (by simpa using hu)) hone.out (by omega) (by have := hlm'.out; simp; omega) ?_)
        have hlm5 := hlm'.out
        have hz5 := hz'.out
        have hz5' := hz5h.out
        intro v6 w6 ho6 hg6 hn6
        obtain ⟨A6, c6, rfl, -, -, -, -⟩ := own_shape ho6
        have hm5 := hm5N.out.bl (hal5.out (.cells #[.slice none 0 0, .int .i64 8, .slice (some ⟨w4.heap.size + 1, 0, none⟩) 1 1] 35))
        have hfe5 := hfeL.out.go (Fr.of _ (hal5.out (.cells #[.slice none 0 0, .int .i64 8, .slice (some ⟨w4.heap.size + 1, 0, none⟩) 1 1] 35))) fun q e => .inl e
        have hq5 := Bx.go hqL.out (Fr.of ML (hal5.out (.cells #[.slice none 0 0, .int .i64 8, .slice (some ⟨w4.heap.size + 1, 0, none⟩) 1 1] 35))) fun q e => .inl e
        have hm6 := Hd.mk (hm5.appF [.slice none 0 0, .int .i64 8, .slice (some ⟨w4.heap.size + 1, 0, none⟩) 1 1] hfe5 _ hg6 ho6 (by first | exact hn6 | (rw [World.size_alloc]; exact hn6)))
        have hq6 := Hd.mk (Bx.go hq5 (hm5.frF hg6 (.slice A6 (n + 1) c6)) fun q e => .inl e)
        have hfb5 := (heap_old (o := .cells #[.slice none 0 0, .int .i64 8, .slice (some ⟨w4.heap.size + 1, 0, none⟩) 1 1] 35) hfb5.out hz5)
        have hfb6 := Hd.mk ((hg6.block w3.heap.size (by simp; omega) (fun e => by have := hbF.out _ e.symm; omega)).trans hfb5)
        have z0 := (row_facts hfb6.out).1 0
        have z1 := (row_facts hfb6.out).1 1
        simp at z0 z1
        have hmb6 := (hg6.block (w.heap.size + 1) (by simp; omega) (fun e => own_noT hm5.oF hm5.mb (by decide) _ e.symm rfl)).trans hm5.mb
        have mf6 := (row_facts hmb6).2
        have mc6 := (row_facts hmb6).1 0
        simp at mc6
        have hne : w3.heap.size ≠ w.heap.size + 1 := by omega
        have hz6 : w3.heap.size < w6.heap.size := (Array.getElem?_eq_some_iff.1 hfb6.out).1
        have hal6 := Hd.mk fun (o : Obj) => (Below.refl (w6.setCell ⟨w.heap.size + 1, 0, none⟩ (.slice A6 (n + 1) c6)).heap.size (w6.setCell ⟨w.heap.size + 1, 0, none⟩ (.slice A6 (n + 1) c6))).al (Nat.le_refl _) o
        clear hm5 hfe5 hq5 hg6 ho6 hn6 hfb5 hmb6 hz5'
        go_wp2_with (at_builtin; refine appI_at rfl _ _ rfl w.heap.size _ rl [8] rfl (own_mv hm6.out.o4 (hal6.out _)) _ 1 1 rfl (rd_one_of (new_cell _ _ _ (by simp [World.setCell]) 0 _ rfl)) (by have := hln.out; omega) (by simp [World.setCell]; omega) ?_)
        intro v8 w8 ho8 hg8 hn8
        obtain ⟨A8, c8, rfl, -, -, -, -⟩ := own_shape ho8
        have hm7 := hm6.out.bl (hal6.out (.cells #[.int .i64 8] 2))
        have hq7 := Bx.go hq6.out (Fr.of ML (hal6.out (.cells #[.int .i64 8] 2))) fun q e => .inl e
        have hm8 := Hd.mk (hm7.app4 8 (.slice A8 (rl.length + 1) c8) hg8 (by simpa using ho8) (by simpa [World.setCell] using hn8))
        have hq8 := Hd.mk (Bx.go hq7 (hm7.fr4 hg8) fun q e => .inl e)
        have hfb7 := heap_old (o := .cells #[.int .i64 8] 2) (heap_off (u := .slice A6 (n + 1) c6) (j := 0) hfb6.out hne) (by simp [World.setCell]; omega)
        have hfb8 := (hg8.block w3.heap.size (Array.getElem?_eq_some_iff.1 hfb7).1 (fun e => own_noT hm7.o4 hfb7 (by decide) _ e.symm rfl)).trans hfb7
        have k0 := (row_facts hfb8).1 0
        simp at k0
        have hz8 : w3.heap.size < w8.heap.size := (Array.getElem?_eq_some_iff.1 hfb8).1
        have hal8 := Hd.mk fun (o : Obj) => (Below.refl w8.heap.size w8).al (Nat.le_refl _) o
        have hone8 : Hd (∀ u ∈ ([.slice none 0 0] : List Value), u.oneCell' = true) := ⟨by
          intro u hu
          rw [List.mem_singleton.1 hu]; rfl⟩
        clear hm7 hq7 hg8 ho8 hn8 hfb7 hfb8 z0 z1 mf6 mc6
        go_wp2_with (at_builtin; refine appE_at rfl _ _ rfl Tryz.underlying113 infoIs rfl (by decide) (by decide) w.heap.size _ pl.length pc rfl (own_mv hm8.out.o5 (hal8.out _)) _ _ rfl [.slice none 0 0] rfl (fun j u hu => new_cell w8 #[.slice none 0 0] 24 rfl j u (by simpa using hu)) hone8.out (by have := hln.out; omega) (by simp; omega) ?_)
        intro v9 w9 ho9 hg9 hn9
        have hm9 := Hd.mk ((hm8.out.bl (hal8.out (.cells #[.slice none 0 0] 24))).app5 [] ⟨by decide, fun p hp => by cases hp⟩ none 0 (Bx.go hq8.out (Fr.of ML (hal8.out (.cells #[.slice none 0 0] 24))) fun q e => .inl e) _ hg9 ho9 (by first | exact hn9 | (rw [World.size_alloc]; exact hn9)))
        clear hg9 ho9 hn9
        go_wp2
        go_roundw
        case rel => exact ⟨j, n + 1, ML, _, rl ++ [8], pl ++ [[]], _, _, by omega, by omega, by go_num, ⟨by have := hln.out; simp; omega⟩, hm9⟩
        case measure => simp [intOf] <;> omega
      by_cases hc10 : (10 : Int) < (xs.length : Int)
      · have hqx := hq1x
        have m4 := (row_facts hm4.out.mb).1 0
        simp at m4
        have hne4 : w.heap.size + 1 ≠ w3.heap.size := by omega
        have hne5 : w3.heap.size ≠ w.heap.size + 1 := by omega
        obtain ⟨W5, hW5⟩ : ∃ W5 : World, W5 = ((((w4.setCell ⟨w3.heap.size, 0, none⟩ (.slice none 0 0)).setCell ⟨w3.heap.size, 1, none⟩ (.int .i64 8)).setCell ⟨w3.heap.size, 2, none⟩ (.slice (some ⟨w4.heap.size + 1, 0, none⟩) 1 1)).alloc (.cells #[.int .i64 21, .int .i64 8, .int .i64 0, .int .i64 0, .int .i64 0, .int .i64 7, .slice none 0 0] 26)).alloc (.cells #[.slice none 0 0, .slice (some ⟨w4.heap.size, 0, none⟩) 1 1, .int .i64 1, .int .i64 0, .int .i64 0, .int .i64 0] 32) := ⟨_, rfl⟩
        have hz5' : W5.heap.size = w4.heap.size + 1 + 1 := by rw [hW5]; simp [World.setCell]
        have hF45 : Fr (fun q => q = w3.heap.size) w4 W5 := by
          rw [hW5]
          exact (((Fr.set w4 w3.heap.size 0 _).go (Fr.set _ w3.heap.size 1 _) fun q e => .inl e).go (Fr.set _ w3.heap.size 2 _) fun q e => .inl e).then (((Below.refl _ _).al (Nat.le_refl _) _).al (by simp) _)
        have h5I : W5.heap[w4.heap.size]? = some (.cells #[.int .i64 21, .int .i64 8, .int .i64 0, .int .i64 0, .int .i64 0, .int .i64 7, .slice none 0 0] 26 (0, 0)) := by
          rw [hW5]
          exact heap_old (heap_new _ _ _ _ (by simp [World.setCell])) (by simp [World.setCell])
        have h5B : W5.heap[w4.heap.size + 1]? = some (.cells #[.slice none 0 0, .slice (some ⟨w4.heap.size, 0, none⟩) 1 1, .int .i64 1, .int .i64 0, .int .i64 0, .int .i64 0] 32 (0, 0)) := by
          rw [hW5]
          exact heap_new _ _ _ _ (by simp [World.setCell])
        have hfb5 : Hd (W5.heap[w3.heap.size]? = some (.cells #[.slice none 0 0, .int .i64 8, .slice (some ⟨w4.heap.size + 1, 0, none⟩) 1 1] 35 (0, 0))) := ⟨by
          rw [hW5]
          exact (heap_old (heap_old (heap_set (heap_set (heap_set hfb4.out))) (by simp [World.setCell]; omega)) (by simp [World.setCell]; omega)).trans (by simp)⟩
        have hb4F := hm4.out.fr
        have hm5L := Hd.mk (hm4.out.fr' hF45 fun q e => by
          subst e
          exact ⟨hMge.out _ (Nat.le_refl _), hzw, fun e => by have := (own_in hm3.out.o4 _ e).2; omega, fun e => by have := (own_in hm3.out.o5 _ e).2; omega, fun e => by have := (own_in hm3.out.oF _ e).2; omega⟩)
        obtain ⟨ML, hML⟩ : ∃ ML : Nat → Prop, ML = (fun q => M3 q ∧ (q < w4.heap.size ∨ W5.heap.size ≤ q)) := ⟨_, rfl⟩
        have hm5N := Hd.mk (show MS lo g w ML n _ _ vF rl pl pc cF W5 from by rw [hML]; exact hm5L.out.nar ⟨by omega, fun q e => by have := (own_in hm3.out.o4 q e).2; omega, fun q e => by have := (own_in hm3.out.o5 q e).2; omega, fun q e => by have := (own_in hm3.out.oF q e).2; omega⟩)
        have hfeL := Hd.mk (lit_fe (M := ML) h5I h5B (by rw [hML]; rintro ⟨-, e⟩; omega) (by rw [hML]; rintro ⟨-, e⟩; omega))
        have hqL := Hd.mk (show Bx ML (fun w => RI lm w (.slice none ([] : List Int).length 0) []) W5 from fun w hF => rd_nilK)
        have hW5' := Hd.mk hW5
        clear hF45 h5I h5B hb4F hW5 hML hm5L
        obtain ⟨AF, cF', rfl, -, -, -, -⟩ := own_shape hm5N.out.oF
        have m0 := (row_facts hm5N.out.mb).1 0
        have mf := (row_facts hm5N.out.mb).2
        simp at m0
        have y0 := (row_facts hfb5.out).1 0
        have y1 := (row_facts hfb5.out).1 1
        have y2 := (row_facts hfb5.out).1 2
        simp at y0 y1 y2
        have hz5h := Hd.mk hz5'
        have hs1 : w.heap.size < w4.heap.size := by omega
        have hs2 : w.heap.size < w4.heap.size + 1 := by omega
        have hs3 : w3.heap.size < w4.heap.size + 1 := by omega
        have hs4 : w3.heap.size < w4.heap.size + 1 + 1 := by omega
        have hal5 := Hd.mk fun (o : Obj) => (Below.refl W5.heap.size W5).al (Nat.le_refl _) o
        have hlm5 := hm5N.out.lt
        have hz5 : w3.heap.size < W5.heap.size := (Array.getElem?_eq_some_iff.1 hfb5.out).1
        have hone : Hd (∀ u ∈ ([.slice none 0 0, .int .i64 8, .slice (some ⟨w4.heap.size + 1, 0, none⟩) 1 1] : List Value), u.oneCell' = true) := ⟨by
          intro u hu
          simp only [List.mem_cons, List.not_mem_nil, or_false] at hu
          rcases hu with rfl | rfl | rfl <;> rfl⟩
        have hm0' := Hd.mk m0
        have hm1' := Hd.mk mf
        have hlm' := Hd.mk hlm5
        have hz' := Hd.mk hz5
        clear hz5' m0 mf y0 y1 y2 hlm5 hz5
        go_wp2_with (at_builtin; rw [← hW5'.out]; refine appE_at rfl _ _ rfl Tryz.underlying36 infoFn rfl (by decide) (by decide) w.heap.size _ n cF rfl (own_mv hm5N.out.oF (hal5.out _)) (w4.heap.size + 1 + 1) _ rfl [.slice none 0 0, .int .i64 8, .slice (some ⟨w4.heap.size + 1, 0, none⟩) 1 1] rfl (fun j u hu => new_cell W5 #[.slice none 0 0, .int .i64 8, .slice (some ⟨w4.heap.size + 1, 0, none⟩) 1 1] 35 (by first | rfl | exact hz5h.out.symm) j u (by simpa using hu)) hone.out (by omega) (by have := hlm'.out; simp; omega) ?_)
        have hlm5 := hlm'.out
        have hz5 := hz'.out
        have hz5' := hz5h.out
        intro v6 w6 ho6 hg6 hn6
        obtain ⟨A6, c6, rfl, -, -, -, -⟩ := own_shape ho6
        have hm5 := hm5N.out.bl (hal5.out (.cells #[.slice none 0 0, .int .i64 8, .slice (some ⟨w4.heap.size + 1, 0, none⟩) 1 1] 35))
        have hfe5 := hfeL.out.go (Fr.of _ (hal5.out (.cells #[.slice none 0 0, .int .i64 8, .slice (some ⟨w4.heap.size + 1, 0, none⟩) 1 1] 35))) fun q e => .inl e
        have hq5 := Bx.go hqL.out (Fr.of ML (hal5.out (.cells #[.slice none 0 0, .int .i64 8, .slice (some ⟨w4.heap.size + 1, 0, none⟩) 1 1] 35))) fun q e => .inl e
        have hm6 := Hd.mk (hm5.appF [.slice none 0 0, .int .i64 8, .slice (some ⟨w4.heap.size + 1, 0, none⟩) 1 1] hfe5 _ hg6 ho6 (by first | exact hn6 | (rw [World.size_alloc]; exact hn6)))
        have hq6 := Hd.mk (Bx.go hq5 (hm5.frF hg6 (.slice A6 (n + 1) c6)) fun q e => .inl e)
        have hfb5 := (heap_old (o := .cells #[.slice none 0 0, .int .i64 8, .slice (some ⟨w4.heap.size + 1, 0, none⟩) 1 1] 35) hfb5.out hz5)
        have hfb6 := Hd.mk ((hg6.block w3.heap.size (by simp; omega) (fun e => by have := hbF.out _ e.symm; omega)).trans hfb5)
        have z0 := (row_facts hfb6.out).1 0
        have z1 := (row_facts hfb6.out).1 1
        simp at z0 z1
        have hmb6 := (hg6.block (w.heap.size + 1) (by simp; omega) (fun e => own_noT hm5.oF hm5.mb (by decide) _ e.symm rfl)).trans hm5.mb
        have mf6 := (row_facts hmb6).2
        have mc6 := (row_facts hmb6).1 0
        simp at mc6
        have hne : w3.heap.size ≠ w.heap.size + 1 := by omega
        have hz6 : w3.heap.size < w6.heap.size := (Array.getElem?_eq_some_iff.1 hfb6.out).1
        have hal6 := Hd.mk fun (o : Obj) => (Below.refl (w6.setCell ⟨w.heap.size + 1, 0, none⟩ (.slice A6 (n + 1) c6)).heap.size (w6.setCell ⟨w.heap.size + 1, 0, none⟩ (.slice A6 (n + 1) c6))).al (Nat.le_refl _) o
        clear hm5 hfe5 hq5 hg6 ho6 hn6 hfb5 hmb6 hz5'
        go_wp2_with (at_builtin; refine appI_at rfl _ _ rfl w.heap.size _ rl [8] rfl (own_mv hm6.out.o4 (hal6.out _)) _ 1 1 rfl (rd_one_of (new_cell _ _ _ (by simp [World.setCell]) 0 _ rfl)) (by have := hln.out; omega) (by simp [World.setCell]; omega) ?_)
        intro v8 w8 ho8 hg8 hn8
        obtain ⟨A8, c8, rfl, -, -, -, -⟩ := own_shape ho8
        have hm7 := hm6.out.bl (hal6.out (.cells #[.int .i64 8] 2))
        have hq7 := Bx.go hq6.out (Fr.of ML (hal6.out (.cells #[.int .i64 8] 2))) fun q e => .inl e
        have hm8 := Hd.mk (hm7.app4 8 (.slice A8 (rl.length + 1) c8) hg8 (by simpa using ho8) (by simpa [World.setCell] using hn8))
        have hq8 := Hd.mk (Bx.go hq7 (hm7.fr4 hg8) fun q e => .inl e)
        have hfb7 := heap_old (o := .cells #[.int .i64 8] 2) (heap_off (u := .slice A6 (n + 1) c6) (j := 0) hfb6.out hne) (by simp [World.setCell]; omega)
        have hfb8 := (hg8.block w3.heap.size (Array.getElem?_eq_some_iff.1 hfb7).1 (fun e => own_noT hm7.o4 hfb7 (by decide) _ e.symm rfl)).trans hfb7
        have k0 := (row_facts hfb8).1 0
        simp at k0
        have hz8 : w3.heap.size < w8.heap.size := (Array.getElem?_eq_some_iff.1 hfb8).1
        have hal8 := Hd.mk fun (o : Obj) => (Below.refl w8.heap.size w8).al (Nat.le_refl _) o
        have hone8 : Hd (∀ u ∈ ([.slice none 0 0] : List Value), u.oneCell' = true) := ⟨by
          intro u hu
          rw [List.mem_singleton.1 hu]; rfl⟩
        clear hm7 hq7 hg8 ho8 hn8 hfb7 hfb8 z0 z1 mf6 mc6
        go_wp2_with (at_builtin; refine appE_at rfl _ _ rfl Tryz.underlying113 infoIs rfl (by decide) (by decide) w.heap.size _ pl.length pc rfl (own_mv hm8.out.o5 (hal8.out _)) _ _ rfl [.slice none 0 0] rfl (fun j u hu => new_cell w8 #[.slice none 0 0] 24 rfl j u (by simpa using hu)) hone8.out (by have := hln.out; omega) (by simp; omega) ?_)
        intro v9 w9 ho9 hg9 hn9
        have hm9 := Hd.mk ((hm8.out.bl (hal8.out (.cells #[.slice none 0 0] 24))).app5 [] ⟨by decide, fun p hp => by cases hp⟩ none 0 (Bx.go hq8.out (Fr.of ML (hal8.out (.cells #[.slice none 0 0] 24))) fun q e => .inl e) _ hg9 ho9 (by first | exact hn9 | (rw [World.size_alloc]; exact hn9)))
        clear hg9 ho9 hn9
        go_wp2
        go_roundw
        case rel => exact ⟨j, n + 1, ML, _, rl ++ [8], pl ++ [[]], _, _, by omega, by omega, by go_num, ⟨by have := hln.out; simp; omega⟩, hm9⟩
        case measure => simp [intOf] <;> omega
      obtain ⟨AF, cF', rfl, -, -, -, -⟩ := own_shape hm4.out.oF
      have m0 := (row_facts hm4.out.mb).1 0
      have mf := (row_facts hm4.out.mb).2
      simp at m0
      have y0 := (row_facts hfb4.out).1 0
      have y1 := (row_facts hfb4.out).1 1
      have y2 := (row_facts hfb4.out).1 2
      simp at y0 y1 y2
      have hal5 := Hd.mk fun (o : Obj) => (Below.refl w4.heap.size w4).al (Nat.le_refl _) o
      have hlm5 := hm4.out.lt
      have hz5 : w3.heap.size < w4.heap.size := (Array.getElem?_eq_some_iff.1 hfb4.out).1
      have hone : Hd (∀ u ∈ ([.slice A ps.length c, .int .i64 ret, .slice A3 xs.length c3] : List Value), u.oneCell' = true) := ⟨by
        intro u hu
        simp only [List.mem_cons, List.not_mem_nil, or_false] at hu
        rcases hu with rfl | rfl | rfl <;> rfl⟩
      go_wp2_with (at_builtin; refine appE_at rfl _ _ rfl Tryz.underlying36 infoFn rfl (by decide) (by decide) w.heap.size _ n cF rfl (own_mv hm4.out.oF (hal5.out _)) _ _ rfl [.slice A ps.length c, .int .i64 ret, .slice A3 xs.length c3] rfl (fun j u hu => new_cell w4 #[.slice A ps.length c, .int .i64 ret, .slice A3 xs.length c3] 35 (by first | rfl | exact hz5h.out.symm) j u (by simpa using hu)) hone.out (by omega) (by simp; omega) ?_)
      intro v6 w6 ho6 hg6 hn6
      obtain ⟨A6, c6, rfl, -, -, -, -⟩ := own_shape ho6
      have hm5 := hm4.out.bl (hal5.out (.cells #[.slice A ps.length c, .int .i64 ret, .slice A3 xs.length c3] 35))
      have hfe5 := hf4.out.go (Fr.of _ (hal5.out (.cells #[.slice A ps.length c, .int .i64 ret, .slice A3 xs.length c3] 35))) fun q e => .inl e
      have hq5 := Bx.go hq1x.out (Fr.of M3 (hal5.out (.cells #[.slice A ps.length c, .int .i64 ret, .slice A3 xs.length c3] 35))) fun q e => .inl e
      have hm6 := Hd.mk (hm5.appF [.slice A ps.length c, .int .i64 ret, .slice A3 xs.length c3] hfe5 _ hg6 ho6 (by first | exact hn6 | (rw [World.size_alloc]; exact hn6)))
      have hq6 := Hd.mk (Bx.go hq5 (hm5.frF hg6 (.slice A6 (n + 1) c6)) fun q e => .inl e)
      have hfb5 := (heap_old (o := .cells #[.slice A ps.length c, .int .i64 ret, .slice A3 xs.length c3] 35) hfb4.out hz5)
      have hfb6 := Hd.mk ((hg6.block w3.heap.size (by simp; omega) (fun e => by have := hbF.out _ e.symm; omega)).trans hfb5)
      have z0 := (row_facts hfb6.out).1 0
      have z1 := (row_facts hfb6.out).1 1
      simp at z0 z1
      have hmb6 := (hg6.block (w.heap.size + 1) (by simp; omega) (fun e => own_noT hm5.oF hm5.mb (by decide) _ e.symm rfl)).trans hm5.mb
      have mf6 := (row_facts hmb6).2
      have mc6 := (row_facts hmb6).1 0
      simp at mc6
      have hne : w3.heap.size ≠ w.heap.size + 1 := by omega
      have hz6 : w3.heap.size < w6.heap.size := (Array.getElem?_eq_some_iff.1 hfb6.out).1
      have hal6 := Hd.mk fun (o : Obj) => (Below.refl (w6.setCell ⟨w.heap.size + 1, 0, none⟩ (.slice A6 (n + 1) c6)).heap.size (w6.setCell ⟨w.heap.size + 1, 0, none⟩ (.slice A6 (n + 1) c6))).al (Nat.le_refl _) o
      clear hm5 hfe5 hq5 hg6 ho6 hn6 hfb5 hmb6 m0 mf y0 y1 y2
      go_wp2_with (at_builtin; refine appI_at rfl _ _ rfl w.heap.size _ rl [ret] rfl (own_mv hm6.out.o4 (hal6.out _)) _ 1 1 rfl (rd_one_of (new_cell _ _ _ (by simp [World.setCell]) 0 _ rfl)) (by have := hln.out; omega) (by simp [World.setCell]; omega) ?_)
      intro v8 w8 ho8 hg8 hn8
      obtain ⟨A8, c8, rfl, -, -, -, -⟩ := own_shape ho8
      have hm7 := hm6.out.bl (hal6.out (.cells #[.int .i64 ret] 2))
      have hq7 := Bx.go hq6.out (Fr.of M3 (hal6.out (.cells #[.int .i64 ret] 2))) fun q e => .inl e
      have hm8 := Hd.mk (hm7.app4 ret (.slice A8 (rl.length + 1) c8) hg8 (by simpa using ho8) (by simpa [World.setCell] using hn8))
      have hq8 := Hd.mk (Bx.go hq7 (hm7.fr4 hg8) fun q e => .inl e)
      have hfb7 := heap_old (o := .cells #[.int .i64 ret] 2) (heap_off (u := .slice A6 (n + 1) c6) (j := 0) hfb6.out hne) (by simp [World.setCell]; omega)
      have hfb8 := (hg8.block w3.heap.size (Array.getElem?_eq_some_iff.1 hfb7).1 (fun e => own_noT hm7.o4 hfb7 (by decide) _ e.symm rfl)).trans hfb7
      have k0 := (row_facts hfb8).1 0
      simp at k0
      have hz8 : w3.heap.size < w8.heap.size := (Array.getElem?_eq_some_iff.1 hfb8).1
      have hal8 := Hd.mk fun (o : Obj) => (Below.refl w8.heap.size w8).al (Nat.le_refl _) o
      have hone8 : Hd (∀ u ∈ ([.slice A ps.length c] : List Value), u.oneCell' = true) := ⟨by
        intro u hu
        rw [List.mem_singleton.1 hu]; rfl⟩
      clear hm7 hq7 hg8 ho8 hn8 hfb7 hfb8 z0 z1 mf6 mc6
      go_wp2_with (at_builtin; refine appE_at rfl _ _ rfl Tryz.underlying113 infoIs rfl (by decide) (by decide) w.heap.size _ pl.length pc rfl (own_mv hm8.out.o5 (hal8.out _)) _ _ rfl [.slice A ps.length c] rfl (fun j u hu => new_cell w8 #[.slice A ps.length c] 24 rfl j u (by simpa using hu)) hone8.out (by have := hln.out; omega) (by simp; omega) ?_)
      intro v9 w9 ho9 hg9 hn9
      have hm9 := Hd.mk ((hm8.out.bl (hal8.out (.cells #[.slice A ps.length c] 24))).app5 ps hps A c (Bx.go hq8.out (Fr.of M3 (hal8.out (.cells #[.slice A ps.length c] 24))) fun q e => .inl e) _ hg9 ho9 (by first | exact hn9 | (rw [World.size_alloc]; exact hn9)))
      clear hg9 ho9 hn9
      go_wp2
      go_roundw
      case rel => exact ⟨j, n + 1, M3, _, rl ++ [ret], pl ++ [ps], _, _, by omega, by omega, by go_num, ⟨by have := hln.out; simp; omega⟩, hm9⟩
      case measure => simp [intOf] <;> omega
    obtain rfl : i = 0 := by omega
    obtain ⟨AF, cF', rfl, -, -, -, -⟩ := own_shape hms.out.oF
    have m0 := (row_facts hms.out.mb).1 0
    have r0 := (row_facts hms.out.rb).1 0
    have rf := (row_facts hms.out.rb).2
    simp at m0 r0
    have hlt := hms.out.lt
    have hltr : w.heap.size < wr.heap.size := by omega
    go_wp2
    refine bodyPost_ret (v := .agg #[.slice AF n cF']) (by simp [results, Tryz.results51, go_sem, r0]) rfl ⟨_, n, cF, rfl, ⟨by omega, by omega⟩, own_fr hms.out.oF (Fr.set _ _ _ _) (fun k hk e => own_noT hms.out.oF hms.out.rb (by decide) k hk e), hms.out.fe.go ((Fr.set wr w.heap.size 0 (.slice AF n cF')).sub fun q e => hms.out.mM q (.inr (.inl e))) (fun q e => .inl (hms.out.mM q ?_)), hms.out.rs.frN (Fr.set wr w.heap.size 0 (.slice AF n cF')) (fun q hq e => ?_), fr_gb (hms.out.fr.go (Fr.set wr w.heap.size 0 (.slice AF n cF')) fun q e => .inl (.inr (by omega)))⟩
    · rcases e with e | e
      · exact .inl e
      · exact .inr (.inr (.inr (.inr (.inr (.inr (by simpa [World.setCell] using e))))))
    · have := hms.out.hg; omega
theorem RdS.frL {lo g : Nat} {W W' : World} {E : Nat → Prop} (h : RdS lo W g) (hF : Fr E W W') (hE : ∀ q, (q < lo ∨ q = g) → ¬ E q) : RdS lo W' g := by
  have hlt := h.lt
  obtain ⟨h1, A, n, c, p, h2, h3, h4, h5⟩ := h
  refine ⟨h1, A, n, c, p, (hF.block g hlt (hE g (.inr rfl))).trans h2, h3, h4, fun i hi => ?_⟩
  obtain ⟨b, off, q, k1, k2, k3, k4, k5⟩ := h5 i hi
  exact ⟨b, off, q, k1, k2, k3, k4, by rw [← k5]; exact World.cell?_of_block (hF.block b (by omega) (hE b (.inl k2)))⟩
theorem s_l1Open (v : Value) (xs : List Int) (w0 w : World) (hv : Rd lm 1 KB w0 v xs) (hb : Below w0.heap.size w0 w) : Calls Tryz.prog 50 #[v] w (fun e w' => e = .returned (.pointer (some ⟨w.heap.size, 0, none⟩)) ∧ RdS w0.heap.size w' w.heap.size ∧ Below w.heap.size w w') := by
  obtain ⟨A, c, rfl, -, hl, hv0⟩ := hv.sm
  have hbs := hb.size
  have hb' := Hd.mk hb
  clear hv hb
  go_enter Tryz.func50, Tryz.ntmps50
  go_wp2
  go_ret
  refine ⟨rfl, ?_, (Below.refl _ _).al (Nat.le_refl _) _⟩
  refine ⟨hbs, A, xs.length, c, 0, heap_new _ _ _ _ rfl, Nat.zero_le _, hl, fun i hi => ?_⟩
  obtain ⟨b, off, cs, hA, hbl, ⟨rfl, q1, q2⟩, hat⟩ := hv0.out.in0 (hb'.out.then ((Below.refl _ _).al (Nat.le_refl _) _)) i hi
  have g0 := hat 0 _ rfl
  simp only [Nat.mul_one, Nat.add_zero] at g0
  exact ⟨b, off, xs[i], hA, hbl, q1, q2, g0⟩
structure MD (g base T : Nat) (v : Value) (n : Nat) (cF : List Value) (W : World) : Prop where
  o : W.ownsRow base 35 3 v n cF
  fe : FEs (fun q => q < base ∨ T ≤ q) W n cF
  hg : g < base
  hT : T ≤ W.heap.size
  oT : ∀ k, v.ownBlock = some k → k < T
  n1 : 1 ≤ n
  n2 : n ≤ 2
theorem MD.go {g base T n : Nat} {v : Value} {cF : List Value} {W W' : World} (h : MD g base T v n cF W) {E : Nat → Prop} (hF : Fr E W W') (hE : ∀ q, E q → q < base ∨ T ≤ q) : MD g base T v n cF W' := by
  have hb := own_in h.o
  have hF' : Fr (fun q => q < base ∨ T ≤ q) W W' := hF.sub hE
  exact ⟨own_fr h.o hF' (fun k hk e => by have := hb k hk; have := h.oT k hk; omega), h.fe.go hF' (fun q e => .inl e), h.hg, Nat.le_trans h.hT hF.size, h.oT, h.n1, h.n2⟩
theorem MD.bl {g base T n : Nat} {v : Value} {cF : List Value} {W W' : World} (h : MD g base T v n cF W) (hb : Below W.heap.size W W') : MD g base T v n cF W' := h.go (Fr.of (fun _ => False) hb) fun _ e => e.elim
theorem MD.gb {g base T n : Nat} {v : Value} {cF : List Value} {W W' : World} (h : MD g base T v n cF W) (hb : W.grownBy W' (some g)) : MD g base T v n cF W' := h.go (Fr.gb hb) fun q e => .inl (by injection e with e; rw [← e]; exact h.hg)
theorem MD.rd {g base T n : Nat} {v : Value} {cF : List Value} {W : World} (h : MD g base T v n cF W) : ∃ m : XMod, (m.funcs.length = n ∧ ∀ x ∈ m.funcs, okF x) ∧ KMod lm W m [v] := by
  have hb := own_in h.o
  have := h.hg
  obtain ⟨xs, h1, h2, h3⟩ := (FEs.rd (E := fun q => q = g) h.o h.fe (fun k hk e => by have := hb k hk; omega) (fun q e => .inl (.inl (by omega))) (by have := h.n2; show _ ≤ 1048576; omega)).out
  exact ⟨⟨xs⟩, ⟨h1, h2⟩, v, rfl, h3⟩
theorem MD.at {g base T n : Nat} {v : Value} {cF : List Value} {W : World} (h : MD g base T v n cF W) (k : Nat) (hk : k < n) : ∃ b cap A c ps ret A3 n3 c3, v = .slice (some ⟨b, 0, none⟩) n cap ∧ (W.cell? ⟨b, k * 3, none⟩ = some (.slice A ps.length c) ∧ W.cell? ⟨b, k * 3 + 1, none⟩ = some (.int .i64 ret) ∧ W.cell? ⟨b, k * 3 + 2, none⟩ = some (.slice A3 n3 c3)) ∧ ((∀ p ∈ ps, isW p) ∧ ps.length ≤ 4) ∧ Hd (Bx (fun q => q = g) (fun w => RI lm w (.slice A ps.length c) ps) W) ∧ b < W.heap.size := by
  obtain ⟨cs, h1, h2⟩ := h.fe k hk
  obtain ⟨A, c, ps, ret, vB, rfl, h3, h4, h5, h6⟩ := h2
  obtain ⟨xs, -, -, hr⟩ := h6.out
  obtain ⟨A3, c3, rfl, -, -, -⟩ := hr.sm
  obtain ⟨Av, cap, rfl, -, -, -, hA⟩ := own_shape h.o
  obtain ⟨b, rfl, hb, hc⟩ := hA (by omega)
  exact ⟨b, cap, A, c, ps, ret, A3, _, c3, rfl, ⟨hc _ _ ((h1 0 (by omega)).trans rfl), hc _ _ ((h1 1 (by omega)).trans rfl), hc _ _ ((h1 2 (by omega)).trans rfl)⟩, ⟨h3.2, h3.1⟩, ⟨fun w hF => (h5.go (Fr.refl _ _) (fun q e => .inl (.inl (by have := h.hg; omega)))) w hF⟩, hb⟩
theorem resR_out30 (m : XMod) (k : Int) (args : List Int) (mem : ByteArray) (fuel : Int) : (resR m k args mem fuel).out.length ≤ 30 := by
  unfold resR resI
  split
  · rename_i hm
    split
    · rename_i h
      unfold invOk at h
      simp only [Bool.and_eq_true, beq_iff_eq] at h
      obtain ⟨⟨⟨h1, h2⟩, h3⟩, h4⟩ := h
      exact (callR_ok (modOk_parts hm).1 fuel.toNat 6 k args (rs0 mem) (rs0_ok mem h3 _) (args_rng h2).2).1.out
    · exact Nat.zero_le _
  · exact Nat.zero_le _
def oraV (x : XOra) (A1 : Option Addr) (c1 : Nat) (A2 : Option Addr) (c2 : Nat) : List Value := [.int .i64 x.func, .slice A1 x.args.length c1, .string x.mem, .int .i64 x.want.code, .int .i64 x.want.value, .slice A2 x.want.out.length c2, .string x.want.mem, .int .i64 x.want.steps]
def RetO (lo g : Nat) (w : World) (e : Ending) (w' : World) : Prop := ∃ (x : XOra) (A1 : Option Addr) (c1 : Nat) (A2 : Option Addr) (c2 : Nat), e = .returned (.agg (oraV x A1 c1 A2 c2).toArray) ∧ x.mem.size = 32 ∧ Bx (fun q => q < w.heap.size ∨ w'.heap.size ≤ q) (fun w => RI lm w (.slice A1 x.args.length c1) x.args) w' ∧ Bx (fun q => q < w.heap.size ∨ w'.heap.size ≤ q) (fun w => RI lm w (.slice A2 x.want.out.length c2) x.want.out) w' ∧ RdS lo w' g ∧ w.grownBy w' (some g)
theorem own_bxr {W : World} {base : Nat} {v : Value} {xs : List Int} (h : W.ownsRow base 2 1 v xs.length (xs.map (.int .i64))) {E : Nat → Prop} (hE : ∀ k, v.ownBlock = some k → ¬ E k) (hl : xs.length ≤ lm) : Bx E (fun w => RI lm w v xs) W := fun _ hF => (OwI.of (own_fr h hF hE)).rd hl
def RetDI (w : World) (e : Ending) (w' : World) : Prop := ∃ (m : XMod) (AF : Option Addr) (nF cF : Nat) (k : Nat) (Aa : Option Addr) (ca : Nat) (args : List Int) (mem : ByteArray) (fuel : Int), e = .returned (.tuple #[.agg #[.slice AF nF cF], .int .i64 k, .slice Aa args.length ca, .string mem, .int .i64 fuel]) ∧ (k < m.funcs.length ∧ m.funcs.length ≤ 2) ∧ KMod lm w' m [.slice AF nF cF] ∧ RI lm w' (.slice Aa args.length ca) args ∧ mem.size = 32 ∧ (0 ≤ fuel ∧ fuel ≤ 1000) ∧ Below w.heap.size w w'
set_option maxRecDepth 40000 in
set_option maxHeartbeats 4000000 in
theorem s_DrawInvoked (v : Value) (xs : List Int) (w : World) (hv : Rd lm 1 KB w v xs) : Calls Tryz.prog 18 #[v] w (RetDI w) := by
  obtain ⟨A0, c0, rfl, -, -, -⟩ := hv.sm
  obtain ⟨W0, hW0⟩ : ∃ W0 : World, W0 = w.alloc (.cells #[.slice none 0 0] 38) := ⟨_, rfl⟩
  have hB0 : Below w.heap.size w W0 := by rw [hW0]; exact (Below.refl _ _).al (Nat.le_refl _) _
  have hz0 : W0.heap.size = w.heap.size + 1 := by rw [hW0]; simp
  have hrb0 : W0.heap[w.heap.size]? = some (.cells #[.slice none 0 0] 38 (0, 0)) := by rw [hW0]; exact heap_new _ _ _ _ rfl
  have hp := s_l1Open (.slice A0 xs.length c0) xs w W0 hv hB0
  have hW0' := Hd.mk hW0
  clear hW0 hv
  go_enter Tryz.func18, Tryz.ntmps18
  go_wp2_with fail
  rw [← hW0'.out]
  refine hp.mono ?_; rintro e w1 ⟨rfl, hr1, hb1⟩
  rw [hz0] at hr1 hb1
  simp only [hz0]
  have hrb1 := (hb1.block w.heap.size (by omega)).trans hrb0
  have hF1 := Hd.mk ((Fr.of (fun q => w.heap.size ≤ q) hB0).then (by rw [hz0]; exact hb1))
  obtain ⟨g, hg⟩ : ∃ g, g = w.heap.size + 1 := ⟨_, rfl⟩
  rw [← hg] at hr1 ⊢
  have hg' := Hd.mk hg
  have hgl := hr1.lt
  have hp := s_module w.heap.size g w1 hr1
  have hrb1' := Hd.mk hrb1
  clear hB0 hz0 hrb0 hr1 hb1 hW0' hg hrb1
  go_wp2_with fail
  refine hp.mono ?_; rintro e w2 ⟨v2, n, cF, rfl, hn, ho, hfe, hr2, hg2⟩
  have hF2 := Hd.mk (hF1.out.go (Fr.gb hg2) fun q e => .inl (by have := hg'.out; injection e with e; omega))
  have hrb2 := Hd.mk ((hg2.block w.heap.size (by have := hg'.out; omega) (by have := hg'.out; simp; omega)).trans hrb1'.out)
  have hmd2 : MD g w1.heap.size w2.heap.size v2 n cF w2 := ⟨ho, hfe, hgl, Nat.le_refl _, fun q hq => (own_in ho q hq).2, hn.1, hn.2⟩
  obtain ⟨AF, cap, rfl, -, -, -, -⟩ := own_shape ho
  obtain ⟨W3, hW3⟩ : ∃ W3 : World, W3 = w2.alloc (.cells #[.slice AF n cap] 38) := ⟨_, rfl⟩
  have hB3 : Below w2.heap.size w2 W3 := by rw [hW3]; exact (Below.refl _ _).al (Nat.le_refl _) _
  have hmb3 : W3.heap[w2.heap.size]? = some (.cells #[.slice AF n cap] 38 (0, 0)) := by rw [hW3]; exact heap_new _ _ _ _ rfl
  have hmd3 := Hd.mk (hmd2.bl hB3)
  have hr3 := hr2.frN (Fr.of (fun _ => False) hB3) fun _ _ e => e
  have hF3 := Hd.mk (hF2.out.then hB3)
  have hrb3 := Hd.mk ((hB3.block _ (Array.getElem?_eq_some_iff.1 hrb2.out).1).trans hrb2.out)
  have hz12 := hg2.size
  have hz23 := hB3.size
  have hl3 : w2.heap.size < W3.heap.size := (Array.getElem?_eq_some_iff.1 hmb3).1
  have hp := s_below w.heap.size g n W3 hr3 (by omega)
  have hmb3' := Hd.mk hmb3
  have hW3' := Hd.mk hW3
  have hgw2 : g < w2.heap.size := hr2.lt
  clear hmd2 ho hfe hr2 hg2 hB3 hmb3 hr3 hW3 hrb2 hF2 hrb1' hF1
  go_wp2_with fail
  rw [← hW3'.out]
  refine hp.mono ?_; rintro e w4 ⟨vq, rfl, ⟨q, rfl, q1, q2⟩, hr4, hg4⟩
  obtain ⟨k, rfl⟩ : ∃ k : Nat, q = k := ⟨q.toNat, by omega⟩
  have hk : k < n := by omega
  have hmd4 := Hd.mk (hmd3.out.gb hg4)
  have hF4 := Hd.mk (hF3.out.go (Fr.gb hg4) fun q e => .inl (by have := hg'.out; injection e with e; omega))
  have hrb4 := Hd.mk ((hg4.block w.heap.size (Array.getElem?_eq_some_iff.1 hrb3.out).1 (by have := hg'.out; simp; omega)).trans hrb3.out)
  have hmb4 := Hd.mk ((hg4.block w2.heap.size (by omega) (by simp; omega)).trans hmb3'.out)
  obtain ⟨b, cap', A, c, ps, ret, A3, n3, c3, e, ⟨t0, t1, t2⟩, hps, hbx, hbl⟩ := hmd4.out.at k hk
  cases e
  have hp := s_args w.heap.size g A c ret (.slice A3 n3 c3) ps w4 hr4 hbx.out hps.1 hps.2
  have m0 := (row_facts hmb4.out).1 0
  simp at m0
  have hz34 := hg4.size
  have hkn : (k : Int) < (n : Int) := by omega
  have hk0 : (0 : Int) ≤ (k : Int) := by omega
  clear hr4 hg4 hmd3 hmb3' hrb3 hF3 q1 q2 hbx hps hW3'
  go_wp2_with fail
  refine hp.mono ?_; rintro e w5 ⟨va, al, rfl, hal5, hoa, hr5, hg5⟩
  obtain ⟨Aa, ca, rfl, -, -, -, -⟩ := own_shape hoa
  have hmd5 := Hd.mk (hmd4.out.gb hg5)
  have hF5 := Hd.mk (hF4.out.go (Fr.gb hg5) fun q e => .inl (by have := hg'.out; injection e with e; omega))
  have hrb5 := Hd.mk ((hg5.block w.heap.size (Array.getElem?_eq_some_iff.1 hrb4.out).1 (by have := hg'.out; simp; omega)).trans hrb4.out)
  have hmb5 := Hd.mk ((hg5.block w2.heap.size (by omega) (by simp; omega)).trans hmb4.out)
  have hoa5 := Hd.mk hoa
  have hp := s_mem w.heap.size g w5 hr5
  have hz45 := hg5.size
  clear hoa hr5 hg5 hmd4 hF4 hrb4 hmb4 m0 t0 t1 t2
  go_wp2_with fail
  refine hp.mono ?_; rintro e w6 ⟨s, rfl, hs, hr6, hg6⟩
  have hmd6 := Hd.mk (hmd5.out.gb hg6)
  have hF6 := Hd.mk (hF5.out.go (Fr.gb hg6) fun q e => .inl (by have := hg'.out; injection e with e; omega))
  have hrb6 := Hd.mk ((hg6.block w.heap.size (Array.getElem?_eq_some_iff.1 hrb5.out).1 (by have := hg'.out; simp; omega)).trans hrb5.out)
  have hmb6 := Hd.mk ((hg6.block w2.heap.size (by omega) (by simp; omega)).trans hmb5.out)
  have hoa6 := Hd.mk (own_fr hoa5.out (Fr.gb hg6) (fun q hq e => by have := own_in hoa5.out q hq; injection e with e; omega))
  have hz56 := hg6.size
  have hoI := Hd.mk (own_in hoa5.out)
  have hp := s_once w.heap.size g 6 w6 hr6 (by omega)
  clear hr6 hg6 hmd5 hF5 hrb5 hmb5 hoa5
  go_wp2_with fail
  refine hp.mono ?_; rintro e w7 ⟨vb, rfl, ⟨bb, rfl⟩, hr7, hg7⟩
  have hmd7 := Hd.mk (hmd6.out.gb hg7)
  have hF7 := Hd.mk (hF6.out.go (Fr.gb hg7) fun q e => .inl (by have := hg'.out; injection e with e; omega))
  have hrb7 := Hd.mk ((hg7.block w.heap.size (Array.getElem?_eq_some_iff.1 hrb6.out).1 (by have := hg'.out; simp; omega)).trans hrb6.out)
  have hmb7 := Hd.mk ((hg7.block w2.heap.size (by omega) (by simp; omega)).trans hmb6.out)
  have hoa7 := Hd.mk (own_fr hoa6.out (Fr.gb hg7) (fun q hq e => by have := hoI.out q hq; injection e with e; omega))
  have hz67 := hg7.size
  have hr7' := Hd.mk hr7
  clear hr7 hg7 hmd6 hF6 hrb6 hmb6 hoa6 hp
  cases bb with
  | false =>
    have m0 := (row_facts hmb7.out).1 0
    have r0 := (row_facts hrb7.out).1 0
    have rf := (row_facts hrb7.out).2
    simp at m0 r0
    have hlr := (Array.getElem?_eq_some_iff.1 hrb7.out).1
    go_wp2
    obtain ⟨mm, ⟨hm1, -⟩, hm2⟩ := (hmd7.out.go (Fr.set w7 w.heap.size 0 (.slice (some ⟨b, 0, none⟩) n cap)) (fun q e => .inl (by have := hg'.out; omega))).rd
    refine bodyPost_ret (v := .tuple #[.agg #[.slice (some ⟨b, 0, none⟩) n cap], .int .i64 k, .slice Aa al.length ca, .string s, .int .i64 1000]) (by simp [results, Tryz.results18, go_sem, r0]) rfl ⟨mm, some ⟨b, 0, none⟩, n, cap, k, Aa, ca, al, s, 1000, rfl, ⟨by omega, by omega⟩, hm2, (OwI.of (own_fr hoa7.out (Fr.set w7 w.heap.size 0 (.slice (some ⟨b, 0, none⟩) n cap)) fun q hq e => by have := hoI.out q hq; have := hg'.out; omega)).rd (by show _ ≤ 1048576; omega), hs, ⟨by decide, by decide⟩, (hF7.out.go (Fr.set w7 w.heap.size 0 (.slice (some ⟨b, 0, none⟩) n cap)) fun q e => .inl (by omega)).below (Nat.le_refl _) fun q hq e => by omega⟩
  | true =>
    go_wp2
    have hFx := Hd.mk (Fr.refl (fun q => q = g ∨ q = w.heap.size) w7)
    have hlm := (Array.getElem?_eq_some_iff.1 hmb7.out).1
    have hlr := (Array.getElem?_eq_some_iff.1 hrb7.out).1
    have hgn := hg'.out
    refine wp_region_hos (fun W => Hd (RdS w.heap.size W g ∧ Fr (fun q => q = g ∨ q = w.heap.size) w7 W ∧ ∃ u, W.heap[w.heap.size]? = some (.cells #[u] 38 (0, 0)))) (fun W W' => W.heap[w.heap.size]? = some (.cells #[.slice (some ⟨b, 0, none⟩) n cap] 38 (0, 0)) → W'.heap[w.heap.size]? = some (.cells #[.slice (some ⟨b, 0, none⟩) n cap] 38 (0, 0))) [.k (.agg #[.slice (some ⟨b, 0, none⟩) n cap]), .k (.int .i64 k), .k (.slice Aa al.length ca), .k (.string s), .k (.pointer (some ⟨g, 0, none⟩)), .n (fun v => ∃ q : Int, v = .int .i64 q ∧ 0 ≤ q ∧ q < 20) (fun _ _ => True), .n (fun v => v = undef) (fun W _ => W.heap[w.heap.size]? = some (.cells #[.slice (some ⟨b, 0, none⟩) n cap] 38 (0, 0))), .k (.int .i64 k), .k (.slice Aa al.length ca), .k (.string s), .n (fun v => ∃ q : Int, v = .int .i64 q ∧ 0 ≤ q ∧ q < 20) (fun _ _ => True)] (by kernel_rfl) (by kernel_rfl) (by kernel_rfl) ⟨⟨hr7'.out.frN (Fr.of (fun _ => False) (Below.refl _ _).drew) fun _ _ e => e, Fr.of _ (Below.refl _ _).drew, _, hrb7.out⟩⟩ (fun _ h => h) ?hex ?hst ?hrun
    case hex =>
      simp only [ExS, Sp.pure]
      repeat' first | exact trivial | refine And.intro ?_ ?_ | exact ⟨_, rfl⟩ | exact ⟨_, 0, rfl, by decide, by decide⟩
    case hst =>
      simp only [StS, Sp.inW]
      repeat' first | exact trivial | refine And.intro ?_ ?_ | (intro W W' v hS hR hi; first | exact trivial | exact hR hi)
    simp only [List.toList_toArray]
    refine hos_k (fun W hS hk => ?_) ?_
    · have j0 := (row_facts ((hS.out.2.1.block w2.heap.size (by omega) (by omega)).trans hmb7.out)).1 0
      simp at j0
      clear hk
      go_simp
      first | done | rfl
    simp only [Act.put, List.setIfInBounds_toArray, List.set_cons_zero, List.set_cons_succ]
    refine hos_k (fun W hS hk => ?_) ?_
    · clear hk
      go_simp
      first | done | rfl
    simp only [Act.put, List.setIfInBounds_toArray, List.set_cons_zero, List.set_cons_succ]
    refine hos_k (fun W hS hk => ?_) ?_
    · clear hk
      go_simp
      first | done | rfl
    simp only [Act.put, List.setIfInBounds_toArray, List.set_cons_zero, List.set_cons_succ]
    refine hos_k (fun W hS hk => ?_) ?_
    · clear hk
      go_simp
      first | done | rfl
    simp only [Act.put, List.setIfInBounds_toArray, List.set_cons_zero, List.set_cons_succ]
    refine hos_k (fun W hS hk => ?_) ?_
    · clear hk
      go_simp
      first | done | rfl
    simp only [Act.put, List.setIfInBounds_toArray, List.set_cons_zero, List.set_cons_succ]
    refine hos_n (fun W hS hk => ?_) ?_
    · refine opH_call 52 #[.pointer (some ⟨g, 0, none⟩), .int .i64 20] ?_ ?_
      · clear hk
        go_simp
        first | done | rfl
      · refine (s_below w.heap.size g 20 W hS.out.1 (by omega)).mono ?_
        rintro e w' ⟨v, rfl, ⟨q, rfl, q1, q2⟩, hr, hg⟩
        have hFg : Fr (fun q => q = g) W w' := (Fr.gb hg).sub fun q e => by injection e with e; exact e.symm
        obtain ⟨u, hu⟩ := hS.out.2.2
        have hu' := (hFg.block w.heap.size (Array.getElem?_eq_some_iff.1 hu).1 (by omega))
        exact ⟨_, rfl, ⟨q, rfl, q1, q2⟩, trivial, ⟨⟨hr, hS.out.2.1.go hFg fun q e => .inl (.inl e), u, hu'.trans hu⟩⟩, fun h => hu'.trans h⟩
    rintro _ ⟨q, rfl, q1, q2⟩
    simp only [Act.put, List.setIfInBounds_toArray, List.set_cons_zero, List.set_cons_succ]
    refine hos_n (fun W hS hk => ?_) ?_
    · obtain ⟨u, hu⟩ := hS.out.2.2
      have r0 := (row_facts hu).1 0
      have rf := (row_facts hu).2
      simp at r0
      have hlu := (Array.getElem?_eq_some_iff.1 hu).1
      refine opH_skip (W.setCell ⟨w.heap.size, 0, none⟩ (.slice (some ⟨b, 0, none⟩) n cap)) ?_ ?_
      · clear hk
        go_simp
        first | done | rfl
      · have hs' := (heap_set (u := .slice (some ⟨b, 0, none⟩) n cap) (j := 0) hu).trans (show _ = some (.cells #[.slice (some ⟨b, 0, none⟩) n cap] 38 (0, 0)) by simp)
        exact ⟨rfl, hs', ⟨⟨hS.out.1.frL (Fr.set _ _ _ _) fun q hq e => by omega, hS.out.2.1.go (Fr.set _ _ _ _) fun q e => .inl (.inr e), _, hs'⟩⟩, fun _ => hs'⟩
    rintro _ rfl
    simp only [Act.put, List.setIfInBounds_toArray, List.set_cons_zero, List.set_cons_succ]
    refine hos_k (fun W hS hk => ?_) ?_
    · clear hk
      go_simp
      first | done | rfl
    simp only [Act.put, List.setIfInBounds_toArray, List.set_cons_zero, List.set_cons_succ]
    refine hos_k (fun W hS hk => ?_) ?_
    · clear hk
      go_simp
      first | done | rfl
    simp only [Act.put, List.setIfInBounds_toArray, List.set_cons_zero, List.set_cons_succ]
    refine hos_k (fun W hS hk => ?_) ?_
    · clear hk
      go_simp
      first | done | rfl
    simp only [Act.put, List.setIfInBounds_toArray, List.set_cons_zero, List.set_cons_succ]
    refine hos_n (fun W hS hk => ?_) ?_
    · refine opH_val (.int .i64 q) W ?_ ⟨⟨q, rfl, q1, q2⟩, trivial, hS, fun h => h⟩
      clear hk
      go_simp
      first | done | rfl
    rintro _ ⟨q', rfl, q1', q2'⟩
    simp only [Act.put, List.setIfInBounds_toArray, List.set_cons_zero, List.set_cons_succ]
    refine hos_end (fun W hS hal => ?_)
    obtain ⟨-, hst, -⟩ := hal
    have r0 := (row_facts hst).1 0
    simp at r0
    have hFW := hS.out.2.1
    have hFW' := Hd.mk hFW
    clear hS hst hFW
    go_wp2
    obtain ⟨mm, ⟨hm1, -⟩, hm2⟩ := (hmd7.out.go hFW'.out (fun q e => .inl (by have := hg'.out; omega))).rd
    refine bodyPost_ret (v := .tuple #[.agg #[.slice (some ⟨b, 0, none⟩) n cap], .int .i64 k, .slice Aa al.length ca, .string s, .int .i64 q']) (by simp [results, Tryz.results18, go_sem, r0]) rfl ⟨mm, some ⟨b, 0, none⟩, n, cap, k, Aa, ca, al, s, q', rfl, ⟨by omega, by omega⟩, hm2, (OwI.of (own_fr hoa7.out hFW'.out fun q hq e => by have := hoI.out q hq; have := hg'.out; omega)).rd (by show _ ≤ 1048576; omega), hs, ⟨by omega, by omega⟩, (hF7.out.go hFW'.out fun q e => .inl (by have := hg'.out; omega)).below (Nat.le_refl _) fun q hq e => by omega⟩
set_option maxRecDepth 40000 in
set_option maxHeartbeats 40000000 in
theorem s_oracle (lo g base T : Nat) (v : Value) (n : Nat) (cF : List Value) (w : World) (h : RdS lo w g) (hm : MD g base T v n cF w) : Calls Tryz.prog 58 #[.pointer (some ⟨g, 0, none⟩), .agg #[v]] w (RetO lo g w) := by
  have hgl := h.lt
  obtain ⟨k, rfl⟩ : ∃ k, n = k + 1 := ⟨n - 1, by have := hm.n1; omega⟩
  have hk2 : k ≤ 1 := by have := hm.n2; omega
  have hwk : IntKind.i64.wrap (((k + 1 : Nat) : Int) - 1) = (k : Int) := by rw [IntWalk.i64_in _ (by omega)]; omega
  have hk0 : (0 : Int) ≤ (k : Int) := by omega
  have hk1 : (k : Int) < ((k + 1 : Nat) : Int) := by omega
  obtain ⟨b, cap, A, c, ps, ret, A3, n3, c3, rfl, ⟨t0, t1, t2⟩, hps, hbx, hbl⟩ := hm.at k (by omega)
  obtain ⟨Wb, hWb⟩ : ∃ Wb : World, Wb = (w.alloc (.cells #[.slice (some ⟨b, 0, none⟩) (k + 1) cap] 38)).alloc (.cells #[.int .i64 0, .slice none 0 0, .string ⟨#[]⟩, .int .i64 0, .int .i64 0, .slice none 0 0, .string ⟨#[]⟩, .int .i64 0] 48) := ⟨_, rfl⟩
  have hzb : Wb.heap.size = w.heap.size + 2 := by rw [hWb]; simp
  have hBb : Below w.heap.size w Wb := by rw [hWb]; exact ((Below.refl w.heap.size w).al (Nat.le_refl _) _).al (by simp) _
  have hmb : Wb.heap[w.heap.size]? = some (.cells #[.slice (some ⟨b, 0, none⟩) (k + 1) cap] 38 (0, 0)) := by rw [hWb]; exact heap_old (heap_new _ _ _ _ rfl) (by simp)
  have hrb : Wb.heap[w.heap.size + 1]? = some (.cells #[.int .i64 0, .slice none 0 0, .string ⟨#[]⟩, .int .i64 0, .int .i64 0, .slice none 0 0, .string ⟨#[]⟩, .int .i64 0] 48 (0, 0)) := by rw [hWb]; exact heap_new _ _ _ _ (by simp)
  have hrs : RdS lo Wb g := by rw [hWb]; exact (h.al _).al _
  have hmd := Hd.mk (hm.bl hBb)
  have hp := s_args lo g A c ret (.slice A3 n3 c3) ps Wb hrs (hbx.out.go (Fr.of _ hBb) fun q e => .inl e) hps.1 hps.2
  have hBb' := Hd.mk hBb
  have hWb' := Hd.mk hWb
  have hmb' := Hd.mk hmb
  have hrb' := Hd.mk hrb
  clear hWb h hm hBb hrs hbx hps hmb hrb
  go_enter Tryz.func58, Tryz.ntmps58
  go_wp2_with fail
  rw [← hWb'.out]
  refine hp.mono ?_; rintro e w1 ⟨va, al, rfl, hal5, hoa, hr1, hg1⟩
  obtain ⟨Aa, ca, rfl, -, -, -, -⟩ := own_shape hoa
  have hp := s_mem lo g w1 hr1
  have hmd1 := Hd.mk (hmd.out.gb hg1)
  have hoa1 := Hd.mk hoa
  have hg1' := Hd.mk hg1
  have hr1' := Hd.mk hr1
  have m0 := (row_facts hmb'.out).1 0
  have m1 := (row_facts ((hg1.block w.heap.size (by omega) (by simp; omega)).trans hmb'.out)).1 0
  simp at m0 m1
  have hz1 := hg1.size
  clear hp hoa hr1 hg1 hmd
  have hp := s_mem lo g w1 hr1'.out
  go_wp2_with fail
  refine hp.mono ?_; rintro e w2 ⟨s, rfl, hs, hr2, hg2⟩
  have hmd2 := hmd1.out.gb hg2
  have hoa2 := own_fr hoa1.out (Fr.gb hg2) (fun q hq e => by have := own_in hoa1.out q hq; injection e with e; omega)
  have hbl2 := (Fr.gb hg1'.out).go (Fr.gb hg2) fun q e => .inl e
  have hmb2 := (hbl2.block w.heap.size (by omega) (by simp; omega)).trans hmb'.out
  have hrb2 := (hbl2.block (w.heap.size + 1) (by omega) (by simp; omega)).trans hrb'.out
  have hz2 := hg2.size
  have hoaI := own_in hoa1.out
  obtain ⟨W3, hW3⟩ : ∃ W3 : World, W3 = w2.alloc (.cells #[.int .i64 k, .slice Aa al.length ca, .string s, .int .i64 0, .int .i64 0, .slice none 0 0, .string ⟨#[]⟩, .int .i64 0] 48) := ⟨_, rfl⟩
  have hB3 : Below w2.heap.size w2 W3 := by rw [hW3]; exact (Below.refl _ _).al (Nat.le_refl _) _
  have hob3 : W3.heap[w2.heap.size]? = some (.cells #[.int .i64 k, .slice Aa al.length ca, .string s, .int .i64 0, .int .i64 0, .slice none 0 0, .string ⟨#[]⟩, .int .i64 0] 48 (0, 0)) := by rw [hW3]; exact heap_new _ _ _ _ rfl
  have hmd3 := hmd2.bl hB3
  obtain ⟨m, -, hkm⟩ := hmd3.rd
  have hoa3 := own_mv hoa2 hB3
  have hp := s_Invoked m [.slice (some ⟨b, 0, none⟩) (k + 1) cap] k (.slice Aa al.length ca) al s 2000 W3 hkm ((OwI.of hoa3).rd (by show _ ≤ 1048576; omega)) (by omega)
  have hF3 := Hd.mk ((Fr.of (fun q => q = g ∨ w.heap.size ≤ q) hBb'.out).go (hbl2.then hB3) fun q e => .inl (.inl (by injection e with e; exact e.symm)))
  have hrs3 := Hd.mk (hr2.frN (Fr.of (fun _ => False) hB3) fun _ _ e => e)
  have hoa3' := Hd.mk hoa3
  have hmb3 := (hB3.block _ (Array.getElem?_eq_some_iff.1 hmb2).1).trans hmb2
  have hrb3 := Hd.mk ((hB3.block _ (Array.getElem?_eq_some_iff.1 hrb2).1).trans hrb2)
  have m2 := (row_facts hmb2).1 0
  simp at m2
  have hl2 : w.heap.size < w2.heap.size := (Array.getElem?_eq_some_iff.1 hmb2).1
  have hob3' := Hd.mk hob3
  have hW3' := Hd.mk hW3
  have hz3 : W3.heap.size = w2.heap.size + 1 := by rw [hW3]; simp
  have hoaI' := Hd.mk hoaI
  clear hr2 hg2 hmd2 hoa2 hbl2 hmb2 hrb2 hW3 hB3 hob3 hmd3 hkm hoa3 hmb3 hoaI hmd1 hg1' hr1' hrb' hmb' hBb' m0 m1 t0 t1 t2
  go_wp2_with fail
  rw [← hW3'.out]
  have hout := resR_out m k al s 2000
  have hout5 : ((resR m k al s 2000).out ++ [5]).length ≤ lm := by have := resR_out30 m k al s 2000; simp [lm]; omega
  generalize resR m k al s 2000 = R at *
  refine hp.mono ?_; rintro e w4 ⟨V4, rfl, hV4, hb4⟩
  unfold resV
  have hp := s_Seen R [.int .i64 R.code, .int .i64 R.value, V4, .string R.mem, .int .i64 R.steps] w4 (res_K hV4 hout)
  have hb4' := Hd.mk hb4
  obtain ⟨A4, c4, rfl, -, -, -, -⟩ := own_shape hV4
  clear hV4 hb4 m2
  go_wp2_with fail
  refine hp.mono ?_; rintro e w5 ⟨V5, rfl, hV5, hb5⟩
  unfold resV seenR
  simp only [seenR] at hV5
  have hb35 := hb4'.out.then hb5
  have hob5 := (hb35.block _ (by omega)).trans hob3'.out
  have f5 := (row_facts hob5).2
  have p3 := (row_facts hob5).1 3
  have p4 := (row_facts hob5).1 4
  have p5 := (row_facts hob5).1 5
  have p6 := (row_facts hob5).1 6
  have p7 := (row_facts hob5).1 7
  simp at p3 p4 p5 p6 p7
  obtain ⟨A5, c5, rfl, -, -, -, -⟩ := own_shape hV5
  obtain ⟨w6, hw6⟩ : ∃ w6 : World, w6 = ((((w5.setCell ⟨w2.heap.size, 3, none⟩ (.int .i64 R.code)).setCell ⟨w2.heap.size, 4, none⟩ (.int .i64 R.value)).setCell ⟨w2.heap.size, 5, none⟩ (.slice A5 R.out.length c5)).setCell ⟨w2.heap.size, 6, none⟩ (.string R.mem)).setCell ⟨w2.heap.size, 7, none⟩ (.int .i64 0) := ⟨_, rfl⟩
  have hF6 : Fr (fun q => q = w2.heap.size) w5 w6 := by
    rw [hw6]
    exact ((((Fr.set w5 w2.heap.size 3 _).go (Fr.set _ w2.heap.size 4 _) fun q e => .inl e).go (Fr.set _ w2.heap.size 5 _) fun q e => .inl e).go (Fr.set _ w2.heap.size 6 _) fun q e => .inl e).go (Fr.set _ w2.heap.size 7 _) fun q e => .inl e
  have hob6 : Hd (w6.heap[w2.heap.size]? = some (.cells #[.int .i64 k, .slice Aa al.length ca, .string s, .int .i64 R.code, .int .i64 R.value, .slice A5 R.out.length c5, .string R.mem, .int .i64 0] 48 (0, 0))) := ⟨by
    rw [hw6]
    exact (heap_set (heap_set (heap_set (heap_set (heap_set hob5))))).trans (by simp)⟩
  have hz5 := hb35.size
  have hz4 := hb4'.out.size
  have hz45 := hb5.size
  have hVI := own_in hV5
  have hV6 := Hd.mk (own_fr hV5 hF6 (fun q hq e => by have := hVI q hq; omega))
  have hoa6 := Hd.mk (own_fr (own_mv hoa3'.out hb35) hF6 (fun q hq e => by have := hoaI'.out q hq; omega))
  have hrb6 := Hd.mk ((hF6.block (w.heap.size + 1) (by omega) (by omega)).trans ((hb35.block _ (by omega)).trans hrb3.out))
  have hrs6 := Hd.mk ((hrs3.out.frN (Fr.of (fun _ => False) hb35) fun _ _ e => e).frN hF6 fun q hq e => by omega)
  have hFr6 := Hd.mk ((hF3.out.then hb35).go hF6 fun q e => .inl (.inr (by omega)))
  have hl5 : w2.heap.size < w5.heap.size := by omega
  have hz6 : w5.heap.size ≤ w6.heap.size := hF6.size
  have hVI' := Hd.mk fun q hq => (hVI q hq).1
  have hw6' := Hd.mk hw6
  have hp := s_below lo g 4 w6 hrs6.out (by omega)
  clear hb35 hob5 hF6 hw6 hVI hV5 hb5 hb4' hrs3 hF3 hoa3' hrb3 hob3'
  go_wp2_with fail
  rw [← hw6'.out]
  refine hp.mono ?_; rintro e w7 ⟨vq, rfl, ⟨q, rfl, q1, q2⟩, hr7, hg7⟩
  have hF7 : Fr (fun q => q = g) w6 w7 := (Fr.gb hg7).sub fun q e => by injection e with e; exact e.symm
  have hob7 := Hd.mk ((hF7.block _ (by omega) (by omega)).trans hob6.out)
  have hrb7 := Hd.mk ((hF7.block _ (by omega) (by omega)).trans hrb6.out)
  have hV7 := Hd.mk (own_fr hV6.out hF7 (fun q hq e => by have := hVI'.out q hq; omega))
  have hoa7 := Hd.mk (own_fr hoa6.out hF7 (fun q hq e => by have := hoaI'.out q hq; omega))
  have hFr7 := Hd.mk (hFr6.out.go hF7 fun q e => .inl (.inl e))
  have hr7' := Hd.mk hr7
  have hz7 : w6.heap.size ≤ w7.heap.size := hF7.size
  clear hr7 hg7 hF7 hob6 hrb6 hV6 hoa6 hFr6 hw6' hrs6 f5 p3 p4 p5 p6 p7 hp
  have hq4 : q = 1 ∨ q = 2 ∨ (q ≠ 1 ∧ q ≠ 2) := by omega
  rcases hq4 with rfl | rfl | ⟨hq1, hq2⟩
  · have hp := s_off lo g w7 hr7'.out
    go_wp2_with fail
    refine hp.mono ?_; rintro e w8 ⟨vq, rfl, ⟨z, rfl⟩, hr8, hg8⟩
    have hF8 : Fr (fun q => q = g) w7 w8 := (Fr.gb hg8).sub fun q e => by injection e with e; exact e.symm
    have hob8 := (hF8.block _ (by omega) (by omega)).trans hob7.out
    have hz8 : w7.heap.size ≤ w8.heap.size := hF8.size
    have hob8h := Hd.mk hob8
    have hrb8h := Hd.mk ((hF8.block _ (by omega) (by omega)).trans hrb7.out)
    have f8 := (row_facts hob8).2
    obtain ⟨w9, hw9⟩ : ∃ w9 : World, w9 = w8.setCell ⟨w2.heap.size, 4, none⟩ (.int .i64 z) := ⟨_, rfl⟩
    have hF9 : Fr (fun q => q = w2.heap.size) w8 w9 := by rw [hw9]; exact Fr.set _ _ _ _
    have hob9 : Hd (w9.heap[w2.heap.size]? = some (.cells #[.int .i64 k, .slice Aa al.length ca, .string s, .int .i64 R.code, .int .i64 z, .slice A5 R.out.length c5, .string R.mem, .int .i64 0] 48 (0, 0))) := ⟨by rw [hw9]; exact (heap_set hob8).trans (by simp)⟩
    have hrb9 := Hd.mk ((hF9.block _ (by omega) (by omega)).trans ((hF8.block _ (by omega) (by omega)).trans hrb7.out))
    have hV9 := Hd.mk (own_fr (own_fr hV7.out hF8 (fun q hq e => by have := hVI'.out q hq; omega)) hF9 (fun q hq e => by have := hVI'.out q hq; omega))
    have hoa9 := Hd.mk (own_fr (own_fr hoa7.out hF8 (fun q hq e => by have := hoaI'.out q hq; omega)) hF9 (fun q hq e => by have := hoaI'.out q hq; omega))
    have hFr9 := Hd.mk ((hFr7.out.go hF8 fun q e => .inl (.inl e)).go hF9 fun q e => .inl (.inr (by omega)))
    have hr9 := Hd.mk (hr8.frN hF9 fun q hq e => by omega)
    have hz9 : w8.heap.size ≤ w9.heap.size := hF9.size
    have hl89 : w2.heap.size < w8.heap.size := by omega
    have hw9' := Hd.mk hw9
    clear hF8 hob8 hw9 hF9 hr8 hg8 hp
    have hne1 : w.heap.size + 1 ≠ w2.heap.size := by omega
    have hne2 : w2.heap.size ≠ w.heap.size + 1 := by omega
    have bo := row_facts hob8h.out
    have br := row_facts hrb8h.out
    have x0 := bo.1 0
    have y0 := br.1 0
    have x1 := bo.1 1
    have y1 := br.1 1
    have x2 := bo.1 2
    have y2 := br.1 2
    have x3 := bo.1 3
    have y3 := br.1 3
    have x4 := bo.1 4
    have y4 := br.1 4
    have x5 := bo.1 5
    have y5 := br.1 5
    have x6 := bo.1 6
    have y6 := br.1 6
    have x7 := bo.1 7
    have y7 := br.1 7
    have yf := br.2
    simp at x0 y0 x1 y1 x2 y2 x3 y3 x4 y4 x5 y5 x6 y6 x7 y7
    have hl9 : w2.heap.size < w8.heap.size := (Array.getElem?_eq_some_iff.1 hob8h.out).1
    have hl8 : w.heap.size + 1 < w8.heap.size := (Array.getElem?_eq_some_iff.1 hrb8h.out).1
    clear bo br
    go_wp2
    have hFz : Fr (fun q => q = w.heap.size + 1) w9 (((((((((w8.setCell ⟨w2.heap.size, 4, none⟩ (.int .i64 z)).setCell ⟨w.heap.size + 1, 0, none⟩ (.int .i64 k)).setCell ⟨w.heap.size + 1, 1, none⟩ (.slice Aa al.length ca)).setCell ⟨w.heap.size + 1, 2, none⟩ (.string s)).setCell ⟨w.heap.size + 1, 3, none⟩ (.int .i64 R.code)).setCell ⟨w.heap.size + 1, 4, none⟩ (.int .i64 z)).setCell ⟨w.heap.size + 1, 5, none⟩ (.slice A5 R.out.length c5)).setCell ⟨w.heap.size + 1, 6, none⟩ (.string R.mem)).setCell ⟨w.heap.size + 1, 7, none⟩ (.int .i64 0)) := by
      rw [hw9'.out]
      exact ((((((((Fr.set (w8.setCell ⟨w2.heap.size, 4, none⟩ (.int .i64 z)) (w.heap.size + 1) 0 _).go (Fr.set _ (w.heap.size + 1) 1 _) fun q e => .inl e).go (Fr.set _ (w.heap.size + 1) 2 _) fun q e => .inl e).go (Fr.set _ (w.heap.size + 1) 3 _) fun q e => .inl e).go (Fr.set _ (w.heap.size + 1) 4 _) fun q e => .inl e).go (Fr.set _ (w.heap.size + 1) 5 _) fun q e => .inl e).go (Fr.set _ (w.heap.size + 1) 6 _) fun q e => .inl e).go (Fr.set _ (w.heap.size + 1) 7 _) fun q e => .inl e)
    refine bodyPost_ret (v := .agg #[.int .i64 k, .slice Aa al.length ca, .string s, .int .i64 R.code, .int .i64 z, .slice A5 R.out.length c5, .string R.mem, .int .i64 0]) (by simp [results, Tryz.results58, go_sem, y0, y1, y2, y3, y4, y5, y6, y7]) rfl ⟨⟨k, al, s, ⟨R.code, z, R.out, R.mem, 0⟩⟩, Aa, ca, A5, c5, rfl, hs, own_bxr (own_fr hoa9.out hFz fun q hq e => ?_) (fun q hq e => ?_) ?_, own_bxr (own_fr hV9.out hFz fun q hq e => ?_) (fun q hq e => ?_) ?_, hr9.out.frN hFz fun q hq e => ?_, fr_gb (hFr9.out.go hFz fun q e => .inl (.inr ?_))⟩
    · have := hoaI'.out q hq; omega
    · have := hoaI'.out q hq; have h1 := own_in hoa9.out q hq; have h2 := hFz.size; omega
    · show al.length ≤ 1048576; omega
    · have := hVI'.out q hq; omega
    · have := hVI'.out q hq; have h1 := own_in hV9.out q hq; have h2 := hFz.size; omega
    · exact hout
    · omega
    · omega
  · have x5 := (row_facts hob7.out).1 5
    have f7 := (row_facts hob7.out).2
    simp at x5
    have hal7 := Hd.mk fun (ob : Obj) => (Below.refl w7.heap.size w7).al (Nat.le_refl _) ob
    have hl7 : w2.heap.size < w7.heap.size := by omega
    have hz56 : w4.heap.size ≤ w7.heap.size := by omega
    go_wp2_with (at_builtin; refine appI_at rfl _ _ rfl w4.heap.size _ R.out [5] rfl (own_mv hV7.out (hal7.out _)) _ 1 1 rfl (rd_one _ _) (by have : R.out.length ≤ 1048576 := hout; omega) (by simp; omega) ?_)
    intro v8 w8 ho8x hg8 hn8
    obtain ⟨L, hL⟩ : ∃ L : List Int, L = R.out ++ [5] := ⟨_, rfl⟩
    have ho8 : w8.ownsRow w4.heap.size 2 1 v8 L.length (L.map (.int .i64)) := by rw [hL]; simpa using ho8x
    have hout1 : L.length ≤ lm := by rw [hL]; exact hout5
    clear ho8x hL
    obtain ⟨A8, c8, rfl, -, -, -, -⟩ := own_shape ho8
    have hV7I := own_in (own_mv hV7.out (hal7.out (.cells #[.int .i64 5] 2)))
    have hF8 : Fr (fun q => (Value.slice A5 R.out.length c5).ownBlock = some q) w7 w8 := (Fr.of _ (hal7.out (.cells #[.int .i64 5] 2))).go (Fr.gb hg8) fun q e => .inl e
    have no8 : ∀ q, q ≤ w2.heap.size → ¬ ((Value.slice A5 R.out.length c5).ownBlock = some q) := fun q hq e => by have := hV7I q e; omega
    have hob8 := (hF8.block _ (by omega) (no8 _ (Nat.le_refl _))).trans hob7.out
    have hob8h := Hd.mk hob8
    have hrb8h := Hd.mk ((hF8.block _ (by omega) (no8 _ (by omega))).trans hrb7.out)
    have f8 := (row_facts hob8).2
    have hz8 : w7.heap.size ≤ w8.heap.size := hF8.size
    obtain ⟨w9, hw9⟩ : ∃ w9 : World, w9 = w8.setCell ⟨w2.heap.size, 5, none⟩ (.slice A8 L.length c8) := ⟨_, rfl⟩
    have hF9 : Fr (fun q => q = w2.heap.size) w8 w9 := by rw [hw9]; exact Fr.set _ _ _ _
    have hob9 : Hd (w9.heap[w2.heap.size]? = some (.cells #[.int .i64 k, .slice Aa al.length ca, .string s, .int .i64 R.code, .int .i64 R.value, .slice A8 L.length c8, .string R.mem, .int .i64 0] 48 (0, 0))) := ⟨by rw [hw9]; exact (heap_set hob8).trans (by simp)⟩
    have hVI8 := own_in ho8
    have hVI8' := Hd.mk fun q hq => (hVI8 q hq).1
    have hrb9 := Hd.mk ((hF9.block _ (by omega) (by omega)).trans ((hF8.block _ (by omega) (no8 _ (by omega))).trans hrb7.out))
    have hV9 := Hd.mk (own_fr ho8 hF9 (fun q hq e => by have := hVI8 q hq; omega))
    have hoa9 := Hd.mk (own_fr (own_fr hoa7.out hF8 (fun q hq e => by have := hoaI'.out q hq; exact no8 q (by omega) e)) hF9 (fun q hq e => by have := hoaI'.out q hq; omega))
    have hFr9 := Hd.mk ((hFr7.out.go hF8 fun q e => .inl (.inr (by have := hV7I q e; omega))).go hF9 fun q e => .inl (.inr (by omega)))
    have hr9 := Hd.mk ((hr7'.out.frN hF8 fun q hq e => no8 q (by omega) e).frN hF9 fun q hq e => by omega)
    have hz9 : w8.heap.size ≤ w9.heap.size := hF9.size
    have hl89 : w2.heap.size < w8.heap.size := by omega
    have hw9' := Hd.mk hw9
    clear hF8 hob8 hw9 hF9 hg8 hn8 no8 hV7I hVI8 ho8
    have hne1 : w.heap.size + 1 ≠ w2.heap.size := by omega
    have hne2 : w2.heap.size ≠ w.heap.size + 1 := by omega
    have bo := row_facts hob8h.out
    have br := row_facts hrb8h.out
    have x0 := bo.1 0
    have y0 := br.1 0
    have x1 := bo.1 1
    have y1 := br.1 1
    have x2 := bo.1 2
    have y2 := br.1 2
    have x3 := bo.1 3
    have y3 := br.1 3
    have x4 := bo.1 4
    have y4 := br.1 4
    have x5 := bo.1 5
    have y5 := br.1 5
    have x6 := bo.1 6
    have y6 := br.1 6
    have x7 := bo.1 7
    have y7 := br.1 7
    have yf := br.2
    simp at x0 y0 x1 y1 x2 y2 x3 y3 x4 y4 x5 y5 x6 y6 x7 y7
    have hl9 : w2.heap.size < w8.heap.size := (Array.getElem?_eq_some_iff.1 hob8h.out).1
    have hl8 : w.heap.size + 1 < w8.heap.size := (Array.getElem?_eq_some_iff.1 hrb8h.out).1
    clear bo br
    go_wp2
    have hFz : Fr (fun q => q = w.heap.size + 1) w9 (((((((((w8.setCell ⟨w2.heap.size, 5, none⟩ (.slice A8 L.length c8)).setCell ⟨w.heap.size + 1, 0, none⟩ (.int .i64 k)).setCell ⟨w.heap.size + 1, 1, none⟩ (.slice Aa al.length ca)).setCell ⟨w.heap.size + 1, 2, none⟩ (.string s)).setCell ⟨w.heap.size + 1, 3, none⟩ (.int .i64 R.code)).setCell ⟨w.heap.size + 1, 4, none⟩ (.int .i64 R.value)).setCell ⟨w.heap.size + 1, 5, none⟩ (.slice A8 L.length c8)).setCell ⟨w.heap.size + 1, 6, none⟩ (.string R.mem)).setCell ⟨w.heap.size + 1, 7, none⟩ (.int .i64 0)) := by
      rw [hw9'.out]
      exact ((((((((Fr.set (w8.setCell ⟨w2.heap.size, 5, none⟩ (.slice A8 L.length c8)) (w.heap.size + 1) 0 _).go (Fr.set _ (w.heap.size + 1) 1 _) fun q e => .inl e).go (Fr.set _ (w.heap.size + 1) 2 _) fun q e => .inl e).go (Fr.set _ (w.heap.size + 1) 3 _) fun q e => .inl e).go (Fr.set _ (w.heap.size + 1) 4 _) fun q e => .inl e).go (Fr.set _ (w.heap.size + 1) 5 _) fun q e => .inl e).go (Fr.set _ (w.heap.size + 1) 6 _) fun q e => .inl e).go (Fr.set _ (w.heap.size + 1) 7 _) fun q e => .inl e)
    refine bodyPost_ret (v := .agg #[.int .i64 k, .slice Aa al.length ca, .string s, .int .i64 R.code, .int .i64 R.value, .slice A8 L.length c8, .string R.mem, .int .i64 0]) (by simp [results, Tryz.results58, go_sem, y0, y1, y2, y3, y4, y5, y6, y7]) rfl ⟨⟨k, al, s, ⟨R.code, R.value, L, R.mem, 0⟩⟩, Aa, ca, A8, c8, rfl, hs, own_bxr (own_fr hoa9.out hFz fun q hq e => ?_) (fun q hq e => ?_) ?_, own_bxr (own_fr hV9.out hFz fun q hq e => ?_) (fun q hq e => ?_) ?_, hr9.out.frN hFz fun q hq e => ?_, fr_gb (hFr9.out.go hFz fun q e => .inl (.inr ?_))⟩
    · have := hoaI'.out q hq; omega
    · have := hoaI'.out q hq; have h1 := own_in hoa9.out q hq; have h2 := hFz.size; omega
    · show al.length ≤ 1048576; omega
    · have := hVI8'.out q hq; omega
    · have := hVI8'.out q hq; have h1 := own_in hV9.out q hq; have h2 := hFz.size; omega
    · exact hout1
    · omega
    · omega
  · have d1 := beqF hq1
    have d2 := beqF hq2
    have hne1 : w.heap.size + 1 ≠ w2.heap.size := by omega
    have hne2 : w2.heap.size ≠ w.heap.size + 1 := by omega
    have bo := row_facts hob7.out
    have br := row_facts hrb7.out
    have x0 := bo.1 0
    have y0 := br.1 0
    have x1 := bo.1 1
    have y1 := br.1 1
    have x2 := bo.1 2
    have y2 := br.1 2
    have x3 := bo.1 3
    have y3 := br.1 3
    have x4 := bo.1 4
    have y4 := br.1 4
    have x5 := bo.1 5
    have y5 := br.1 5
    have x6 := bo.1 6
    have y6 := br.1 6
    have x7 := bo.1 7
    have y7 := br.1 7
    have yf := br.2
    simp at x0 y0 x1 y1 x2 y2 x3 y3 x4 y4 x5 y5 x6 y6 x7 y7
    have hl9 : w2.heap.size < w7.heap.size := (Array.getElem?_eq_some_iff.1 hob7.out).1
    have hl8 : w.heap.size + 1 < w7.heap.size := (Array.getElem?_eq_some_iff.1 hrb7.out).1
    clear bo br
    go_wp2
    have hFz : Fr (fun q => q = w.heap.size + 1) w7 ((((((((w7.setCell ⟨w.heap.size + 1, 0, none⟩ (.int .i64 k)).setCell ⟨w.heap.size + 1, 1, none⟩ (.slice Aa al.length ca)).setCell ⟨w.heap.size + 1, 2, none⟩ (.string s)).setCell ⟨w.heap.size + 1, 3, none⟩ (.int .i64 R.code)).setCell ⟨w.heap.size + 1, 4, none⟩ (.int .i64 R.value)).setCell ⟨w.heap.size + 1, 5, none⟩ (.slice A5 R.out.length c5)).setCell ⟨w.heap.size + 1, 6, none⟩ (.string R.mem)).setCell ⟨w.heap.size + 1, 7, none⟩ (.int .i64 0)) := ((((((((Fr.set w7 (w.heap.size + 1) 0 _).go (Fr.set _ (w.heap.size + 1) 1 _) fun q e => .inl e).go (Fr.set _ (w.heap.size + 1) 2 _) fun q e => .inl e).go (Fr.set _ (w.heap.size + 1) 3 _) fun q e => .inl e).go (Fr.set _ (w.heap.size + 1) 4 _) fun q e => .inl e).go (Fr.set _ (w.heap.size + 1) 5 _) fun q e => .inl e).go (Fr.set _ (w.heap.size + 1) 6 _) fun q e => .inl e).go (Fr.set _ (w.heap.size + 1) 7 _) fun q e => .inl e)
    refine bodyPost_ret (v := .agg #[.int .i64 k, .slice Aa al.length ca, .string s, .int .i64 R.code, .int .i64 R.value, .slice A5 R.out.length c5, .string R.mem, .int .i64 0]) (by simp [results, Tryz.results58, go_sem, y0, y1, y2, y3, y4, y5, y6, y7]) rfl ⟨⟨k, al, s, ⟨R.code, R.value, R.out, R.mem, 0⟩⟩, Aa, ca, A5, c5, rfl, hs, own_bxr (own_fr hoa7.out hFz fun q hq e => ?_) (fun q hq e => ?_) ?_, own_bxr (own_fr hV7.out hFz fun q hq e => ?_) (fun q hq e => ?_) ?_, hr7'.out.frN hFz fun q hq e => ?_, fr_gb (hFr7.out.go hFz fun q e => .inl (.inr ?_))⟩
    · have := hoaI'.out q hq; omega
    · have := hoaI'.out q hq; have h1 := own_in hoa7.out q hq; have h2 := hFz.size; omega
    · show al.length ≤ 1048576; omega
    · have := hVI'.out q hq; omega
    · have := hVI'.out q hq; have h1 := own_in hV7.out q hq; have h2 := hFz.size; omega
    · exact hout
    · omega
    · omega
def RetDH (w : World) (e : Ending) (w' : World) : Prop := ∃ (m : XMod) (AF : Option Addr) (nF cF : Nat) (x : XOra) (A1 : Option Addr) (c1 : Nat) (A2 : Option Addr) (c2 : Nat), e = .returned (.tuple #[.agg #[.slice AF nF cF], .agg (oraV x A1 c1 A2 c2).toArray]) ∧ m.funcs.length ≤ 2 ∧ KMod lm w' m [.slice AF nF cF] ∧ x.mem.size = 32 ∧ RI lm w' (.slice A1 x.args.length c1) x.args ∧ RI lm w' (.slice A2 x.want.out.length c2) x.want.out ∧ Below w.heap.size w w'
set_option maxRecDepth 40000 in
set_option maxHeartbeats 4000000 in
theorem s_DrawHolds (v : Value) (xs : List Int) (w : World) (hv : Rd lm 1 KB w v xs) : Calls Tryz.prog 21 #[v] w (RetDH w) := by
  obtain ⟨A0, c0, rfl, -, -, -⟩ := hv.sm
  obtain ⟨W0, hW0⟩ : ∃ W0 : World, W0 = (w.alloc (.cells #[.slice none 0 0] 38)).alloc (.cells #[.int .i64 0, .slice none 0 0, .string ⟨#[]⟩, .int .i64 0, .int .i64 0, .slice none 0 0, .string ⟨#[]⟩, .int .i64 0] 48) := ⟨_, rfl⟩
  have hB0 : Below w.heap.size w W0 := by rw [hW0]; exact ((Below.refl _ _).al (Nat.le_refl _) _).al (by simp) _
  have hz0 : W0.heap.size = w.heap.size + 1 + 1 := by rw [hW0]; simp
  have hrb0 : W0.heap[w.heap.size]? = some (.cells #[.slice none 0 0] 38 (0, 0)) := by rw [hW0]; exact heap_old (heap_new _ _ _ _ rfl) (by simp)
  have hob0 : W0.heap[w.heap.size + 1]? = some (.cells #[.int .i64 0, .slice none 0 0, .string ⟨#[]⟩, .int .i64 0, .int .i64 0, .slice none 0 0, .string ⟨#[]⟩, .int .i64 0] 48 (0, 0)) := by rw [hW0]; exact heap_new _ _ _ _ (by simp)
  have hp := s_l1Open (.slice A0 xs.length c0) xs w W0 hv hB0
  have hW0' := Hd.mk hW0
  clear hW0 hv
  go_enter Tryz.func21, Tryz.ntmps21
  go_wp2_with fail
  rw [← hW0'.out]
  refine hp.mono ?_; rintro e w1 ⟨rfl, hr1, hb1⟩
  rw [hz0] at hr1 hb1
  simp only [hz0]
  have hrb1 := (hb1.block w.heap.size (by omega)).trans hrb0
  have hob1 := (hb1.block (w.heap.size + 1) (by omega)).trans hob0
  have hF1 := Hd.mk ((Fr.of (fun q => w.heap.size ≤ q) hB0).then (by rw [hz0]; exact hb1))
  obtain ⟨g, hg⟩ : ∃ g, g = w.heap.size + 1 + 1 := ⟨_, rfl⟩
  rw [← hg] at hr1 ⊢
  have hg' := Hd.mk hg
  have hgl := hr1.lt
  have hp := s_module w.heap.size g w1 hr1
  have hrb1' := Hd.mk hrb1
  have hob1' := Hd.mk hob1
  clear hB0 hz0 hrb0 hob0 hr1 hb1 hW0' hg hrb1 hob1
  go_wp2_with fail
  refine hp.mono ?_; rintro e w2 ⟨v2, n, cF, rfl, hn, ho, hfe, hr2, hg2⟩
  have hF2 := Hd.mk (hF1.out.go (Fr.gb hg2) fun q e => .inl (by have := hg'.out; injection e with e; omega))
  have hrb2 := Hd.mk ((hg2.block w.heap.size (by have := hg'.out; omega) (by have := hg'.out; simp; omega)).trans hrb1'.out)
  have hob2 := Hd.mk ((hg2.block (w.heap.size + 1) (by have := hg'.out; omega) (by have := hg'.out; simp; omega)).trans hob1'.out)
  have hmd2 : MD g w1.heap.size w2.heap.size v2 n cF w2 := ⟨ho, hfe, hgl, Nat.le_refl _, fun q hq => (own_in ho q hq).2, hn.1, hn.2⟩
  obtain ⟨AF, cap, rfl, -, -, -, -⟩ := own_shape ho
  obtain ⟨W3, hW3⟩ : ∃ W3 : World, W3 = w2.alloc (.cells #[.slice AF n cap] 38) := ⟨_, rfl⟩
  have hB3 : Below w2.heap.size w2 W3 := by rw [hW3]; exact (Below.refl _ _).al (Nat.le_refl _) _
  have hmb3 : W3.heap[w2.heap.size]? = some (.cells #[.slice AF n cap] 38 (0, 0)) := by rw [hW3]; exact heap_new _ _ _ _ rfl
  have hmd3 := Hd.mk (hmd2.bl hB3)
  have hr3 := Hd.mk (hr2.frN (Fr.of (fun _ => False) hB3) fun _ _ e => e)
  have hF3 := Hd.mk (hF2.out.then hB3)
  have hrb3 := Hd.mk ((hB3.block _ (Array.getElem?_eq_some_iff.1 hrb2.out).1).trans hrb2.out)
  have hob3 := Hd.mk ((hB3.block _ (Array.getElem?_eq_some_iff.1 hob2.out).1).trans hob2.out)
  have hz12 := hg2.size
  have hz23 := hB3.size
  have hl3 : w2.heap.size < W3.heap.size := (Array.getElem?_eq_some_iff.1 hmb3).1
  have hmb3' := Hd.mk hmb3
  have hW3' := Hd.mk hW3
  have hgw2 : g < w2.heap.size := hr2.lt
  clear hmd2 ho hfe hr2 hg2 hB3 hmb3 hW3 hrb2 hob2 hF2 hrb1' hob1' hF1
  have hgn := hg'.out
  go_wp2
  rw [← hW3'.out]
  refine wp_region_hos (fun W => Hd (RdS w.heap.size W g ∧ Fr (fun q => q = g ∨ q = w.heap.size) W3 W ∧ ∃ u, W.heap[w.heap.size]? = some (.cells #[u] 38 (0, 0)))) (fun W W' => Fr (fun q => q < W3.heap.size) W W' ∧ (W.heap[w.heap.size]? = some (.cells #[.slice AF n cap] 38 (0, 0)) → W'.heap[w.heap.size]? = some (.cells #[.slice AF n cap] 38 (0, 0)))) [.k (.agg #[.slice AF n cap]), .k (.pointer (some ⟨g, 0, none⟩)), .k (.agg #[.slice AF n cap]), .n (fun v => ∃ x A1 c1 A2 c2, v = .agg (oraV x A1 c1 A2 c2).toArray) (fun W v => ∃ x A1 c1 A2 c2, v = .agg (oraV x A1 c1 A2 c2).toArray ∧ x.mem.size = 32 ∧ Bx (fun q => q < W3.heap.size) (fun w => RI lm w (.slice A1 x.args.length c1) x.args) W ∧ Bx (fun q => q < W3.heap.size) (fun w => RI lm w (.slice A2 x.want.out.length c2) x.want.out) W), .n (fun v => v = undef) (fun W _ => W.heap[w.heap.size]? = some (.cells #[.slice AF n cap] 38 (0, 0)))] (by kernel_rfl) (by kernel_rfl) (by kernel_rfl) ⟨⟨hr3.out.frN (Fr.of (fun _ => False) (Below.refl _ _).drew) fun _ _ e => e, Fr.of _ (Below.refl _ _).drew, _, hrb3.out⟩⟩ (fun _ => ⟨Fr.refl _ _, fun h => h⟩) ?hex ?hst ?hrun
  case hex =>
    simp only [ExS, Sp.pure]
    repeat' first | exact trivial | refine And.intro ?_ ?_ | exact ⟨_, rfl⟩ | exact ⟨_, ⟨0, [], ⟨#[]⟩, ⟨0, 0, [], ⟨#[]⟩, 0⟩⟩, none, 0, none, 0, rfl⟩
  case hst =>
    simp only [StS, Sp.inW]
    repeat' first | exact trivial | refine And.intro ?_ ?_ | (intro W W' v hS hR hi; first | exact trivial | exact hR.2 hi | (obtain ⟨x, A1, c1, A2, c2, h1, h2, h3, h4⟩ := hi; exact ⟨x, A1, c1, A2, c2, h1, h2, h3.go hR.1 fun q e => .inl e, h4.go hR.1 fun q e => .inl e⟩))
  simp only [List.toList_toArray]
  refine hos_k (fun W hS hk => ?_) ?_
  · have j0 := (row_facts ((hS.out.2.1.block w2.heap.size (by omega) (by omega)).trans hmb3'.out)).1 0
    simp at j0
    clear hk
    go_simp
    first | done | rfl
  simp only [Act.put, List.setIfInBounds_toArray, List.set_cons_zero, List.set_cons_succ]
  refine hos_k (fun W hS hk => ?_) ?_
  · clear hk
    go_simp
    first | done | rfl
  simp only [Act.put, List.setIfInBounds_toArray, List.set_cons_zero, List.set_cons_succ]
  refine hos_k (fun W hS hk => ?_) ?_
  · have j0 := (row_facts ((hS.out.2.1.block w2.heap.size (by omega) (by omega)).trans hmb3'.out)).1 0
    simp at j0
    clear hk
    go_simp
    first | done | rfl
  simp only [Act.put, List.setIfInBounds_toArray, List.set_cons_zero, List.set_cons_succ]
  refine hos_n (fun W hS hk => ?_) ?_
  · refine opH_call 58 #[.pointer (some ⟨g, 0, none⟩), .agg #[.slice AF n cap]] ?_ ?_
    · clear hk
      go_simp
      first | done | rfl
    · have hz := hS.out.2.1.size
      refine (s_oracle w.heap.size g w1.heap.size w2.heap.size (.slice AF n cap) n cF W hS.out.1 (hmd3.out.go hS.out.2.1 fun q e => .inl (by omega))).mono ?_
      rintro e w' ⟨x, A1, c1, A2, c2, rfl, hx, hb1, hb2, hr, hg⟩
      have hFg : Fr (fun q => q = g) W w' := (Fr.gb hg).sub fun q e => by injection e with e; exact e.symm
      obtain ⟨u, hu⟩ := hS.out.2.2
      have hu' := (hFg.block w.heap.size (Array.getElem?_eq_some_iff.1 hu).1 (by omega))
      exact ⟨_, rfl, ⟨x, A1, c1, A2, c2, rfl⟩, ⟨x, A1, c1, A2, c2, rfl, hx, hb1.go (Fr.refl _ _) fun q e => .inl (.inl (by omega)), hb2.go (Fr.refl _ _) fun q e => .inl (.inl (by omega))⟩, ⟨⟨hr, hS.out.2.1.go hFg fun q e => .inl (.inl e), u, hu'.trans hu⟩⟩, hFg.sub fun q e => by omega, fun h => hu'.trans h⟩
  rintro _ ⟨x, A1, c1, A2, c2, rfl⟩
  simp only [Act.put, List.setIfInBounds_toArray, List.set_cons_zero, List.set_cons_succ]
  refine hos_n (fun W hS hk => ?_) ?_
  · obtain ⟨u, hu⟩ := hS.out.2.2
    have r0 := (row_facts hu).1 0
    have rf := (row_facts hu).2
    simp at r0
    have hlu := (Array.getElem?_eq_some_iff.1 hu).1
    refine opH_skip (W.setCell ⟨w.heap.size, 0, none⟩ (.slice AF n cap)) ?_ ?_
    · clear hk
      go_simp
      first | done | rfl
    · have hs' := (heap_set (u := .slice AF n cap) (j := 0) hu).trans (show _ = some (.cells #[.slice AF n cap] 38 (0, 0)) by simp)
      exact ⟨rfl, hs', ⟨⟨hS.out.1.frL (Fr.set _ _ _ _) fun q hq e => by omega, hS.out.2.1.go (Fr.set _ _ _ _) fun q e => .inl (.inr e), _, hs'⟩⟩, (Fr.set _ _ _ _).sub fun q e => by omega, fun _ => hs'⟩
  rintro _ rfl
  simp only [Act.put, List.setIfInBounds_toArray, List.set_cons_zero, List.set_cons_succ]
  refine hos_end (fun W hS hal => ?_)
  obtain ⟨⟨x', A1', c1', A2', c2', he, hx, hq1, hq2⟩, hst, -⟩ := hal
  injection he with he
  have hFW := hS.out.2.1
  have hobW := (hFW.block (w.heap.size + 1) (Array.getElem?_eq_some_iff.1 hob3.out).1 (by omega)).trans hob3.out
  have hrbW := hst
  have y := row_facts hobW
  have r0 := (row_facts hrbW).1 0
  simp at r0
  have y0 := y.1 0
  have y1 := y.1 1
  have y2 := y.1 2
  have y3 := y.1 3
  have y4 := y.1 4
  have y5 := y.1 5
  have y6 := y.1 6
  have y7 := y.1 7
  have yf := y.2
  simp at y0 y1 y2 y3 y4 y5 y6 y7
  have hlo := (Array.getElem?_eq_some_iff.1 hobW).1
  have hfull := Hd.mk hFW
  have hst' := Hd.mk hst
  have hq1' := Hd.mk hq1
  have hq2' := Hd.mk hq2
  rw [he, show (oraV x' A1' c1' A2' c2').toArray = #[.int .i64 x'.func, .slice A1' x'.args.length c1', .string x'.mem, .int .i64 x'.want.code, .int .i64 x'.want.value, .slice A2' x'.want.out.length c2', .string x'.want.mem, .int .i64 x'.want.steps] from rfl]
  clear he hFW hst hq1 hq2 hS hobW hrbW y
  refine tail_skip rfl _ (by go_simp; first | done | rfl) ?_
  simp only [Act.put, List.setIfInBounds_toArray, List.set_cons_zero, List.set_cons_succ]
  go_wp2
  have hFz : Fr (fun q => q = w.heap.size + 1) W ((((((((W.setCell ⟨w.heap.size + 1, 0, none⟩ (.int .i64 x'.func)).setCell ⟨w.heap.size + 1, 1, none⟩ (.slice A1' x'.args.length c1')).setCell ⟨w.heap.size + 1, 2, none⟩ (.string x'.mem)).setCell ⟨w.heap.size + 1, 3, none⟩ (.int .i64 x'.want.code)).setCell ⟨w.heap.size + 1, 4, none⟩ (.int .i64 x'.want.value)).setCell ⟨w.heap.size + 1, 5, none⟩ (.slice A2' x'.want.out.length c2')).setCell ⟨w.heap.size + 1, 6, none⟩ (.string x'.want.mem)).setCell ⟨w.heap.size + 1, 7, none⟩ (.int .i64 x'.want.steps)) := ((((((((Fr.set W (w.heap.size + 1) 0 _).go (Fr.set _ (w.heap.size + 1) 1 _) fun q e => .inl e).go (Fr.set _ (w.heap.size + 1) 2 _) fun q e => .inl e).go (Fr.set _ (w.heap.size + 1) 3 _) fun q e => .inl e).go (Fr.set _ (w.heap.size + 1) 4 _) fun q e => .inl e).go (Fr.set _ (w.heap.size + 1) 5 _) fun q e => .inl e).go (Fr.set _ (w.heap.size + 1) 6 _) fun q e => .inl e).go (Fr.set _ (w.heap.size + 1) 7 _) fun q e => .inl e)
  obtain ⟨mm, ⟨hm1, -⟩, hm2⟩ := ((hmd3.out.go hfull.out fun q e => .inl (by omega)).go hFz fun q e => .inl (by omega)).rd
  refine bodyPost_ret (v := .tuple #[.agg #[.slice AF n cap], .agg #[.int .i64 x'.func, .slice A1' x'.args.length c1', .string x'.mem, .int .i64 x'.want.code, .int .i64 x'.want.value, .slice A2' x'.want.out.length c2', .string x'.want.mem, .int .i64 x'.want.steps]]) (by simp [results, Tryz.results21, go_sem, r0, y0, y1, y2, y3, y4, y5, y6, y7]) rfl ⟨mm, AF, n, cap, x', A1', c1', A2', c2', rfl, by have := hmd3.out.n2; omega, hm2, hx, hq1'.out _ (hFz.sub fun q e => by omega), hq2'.out _ (hFz.sub fun q e => by omega), ((hF3.out.go hfull.out fun q e => .inl (by omega)).go hFz fun q e => .inl (by omega)).below (Nat.le_refl _) fun q hq e => by omega⟩
end Go.Proofs.YtkcgejbnhpccdaaGreat
