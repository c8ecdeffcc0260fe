import Derived.Test.YtkcgejbnhpccdaaGreatT37
import Derived.Test.YtkcgejbnhpccdaaGreatT36
set_option linter.unusedSimpArgs false
set_option linter.unusedVariables false
namespace Go.Proofs.YtkcgejbnhpccdaaGreat
open Go.RowKit
def Grown (b : Nat) (k : Int) (D : GD) : Prop := D.nB ≤ b ∧ Nm D ∧ D.next ≤ k
theorem Grown.ins {b : Nat} {k i : Int} {D D' : GD} (h : Grown b k D) (hi : InsR i D D') (hn : Nm D') : Grown b (k + i) D' := ⟨by rw [hi.same.2.2.2.2.1]; exact h.1, hn, by have := hi.next.2; have := h.2.2; omega⟩
theorem Grown.blk {b n : Nat} {k i : Int} {D D' : GD} (h : Grown b k D) (hi : BlkR n i D D') : Grown (b + n) (k + i) D' := ⟨by have := hi.2.2.2.1; have := h.1; omega, hi.2.2.2.2.1, by have := hi.2.2.2.2.2.2; have := h.2.2; omega⟩
theorem fr3 {w : World} {b : Nat} (E : Nat → Prop) (u0 u1 u2 : Value) (h : E b) : Fr E w (((w.setCell ⟨b, 0, none⟩ u0).setCell ⟨b, 1, none⟩ u1).setCell ⟨b, 2, none⟩ u2) :=
  (((Fr.set w b 0 u0).go (Fr.set _ b 1 u1) fun _ e => .inl e).go (Fr.set _ b 2 u2) fun _ e => .inl e).sub fun q e => by subst e; exact h
theorem fr_gb {g : Nat} {w w' : World} (h : Fr (fun q => q = g ∨ w.heap.size ≤ q) w w') : w.grownBy w' (some g) := ⟨h.os, h.tape, h.output, h.size, fun i hi hne => h.block i hi (by
  rintro (rfl | e)
  · exact hne rfl
  · omega)⟩
set_option maxRecDepth 20000 in
set_option maxHeartbeats 40000000 in
theorem s_fn (lo gr : Nat) (Ar Ap : Option Addr) (cr cp : Nat) (pars : List (List Int)) (w : World) (h : RdS lo w gr) (hR : Bx (fun q => q = gr ∨ w.heap.size ≤ q) (QI (.slice Ar pars.length cr) pars.length) w) (hA : Bx (fun q => q = gr ∨ w.heap.size ≤ q) (fun w => Rd lm 1 KL w (.slice Ap pars.length cp) pars) w) (hn : pars.length ≤ 4) (hw : ∀ x ∈ pars, x.length ≤ 4 ∧ ∀ p ∈ x, isW p) :
    Calls Tryz.prog 78 #[.pointer (some ⟨gr, 0, none⟩), .slice Ar pars.length cr, .slice Ap pars.length cp] w (RetF lo gr w) := by
  have hgl := h.lt
  obtain ⟨Wb, hWb⟩ : ∃ Wb : World, Wb = (w.alloc (.cells #[.slice none 0 0, .int .i64 0, .slice none 0 0] 35)).alloc (.cells #[.pointer (some ⟨gr, 0, none⟩), .slice none 0 0, .int .i64 0, .slice none 0 0, .slice none 0 0, .slice none 0 0, .int .i64 0, .int .i64 0, .int .i64 0, .int .i64 0, .int .i64 0, .slice none 0 0, .slice none 0 0, .slice Ar pars.length cr, .slice Ap pars.length cp] 141) := ⟨_, rfl⟩
  have hzb : Wb.heap.size = w.heap.size + 2 := by rw [hWb]; simp
  have hBb : Below w.heap.size w Wb := by rw [hWb]; exact ((Below.refl w.heap.size w).al (Nat.le_refl _) _).al (by simp) _
  have hro : Wb.heap[w.heap.size]? = some (.cells #[.slice none 0 0, .int .i64 0, .slice none 0 0] 35 (0, 0)) := by rw [hWb]; exact heap_old (heap_new _ _ _ _ rfl) (by simp)
  have hgo : Wb.heap[w.heap.size + 1]? = some (.cells ((gd0 0).cells (gc0 lo gr (w.heap.size + 1) (.slice Ar pars.length cr) (.slice Ap pars.length cp) pars)).toArray 141 (0, 0)) := by rw [hWb]; exact heap_new _ _ _ _ (by simp)
  have hrs : RdS lo Wb gr := by rw [hWb]; exact (h.al _).al _
  have hWb' := Hd.mk hWb
  have hp := s_width lo gr Wb hrs
  have hh := Hd.mk h
  clear hWb h
  go_enter Tryz.func78, Tryz.ntmps78
  go_wp2_with fail
  rw [← hWb'.out]
  refine hp.mono ?_; rintro e w1 ⟨v, rfl, ⟨wd, rfl, hwd⟩, hr1, hg1⟩
  have hro1 := (hg1.block w.heap.size (by omega) (by simp; omega)).trans hro
  have hgo1 := (hg1.block (w.heap.size + 1) (by omega) (by simp; omega)).trans hgo
  have hz1 := hg1.size
  have f1 := (row_facts hgo1).2
  have e1 := (row_facts hgo1).1 2
  simp [GD.cells, gd0, gc0] at e1
  obtain ⟨w2, hw2⟩ : ∃ w2 : World, w2 = w1.setCell ⟨w.heap.size + 1, 2, none⟩ (.int .i64 wd) := ⟨_, rfl⟩
  have hz2 : w2.heap.size = w1.heap.size := by rw [hw2]; simp [World.setCell]
  have hF2 : Fr (fun q => q = gr ∨ w.heap.size ≤ q) w w2 := by
    rw [hw2]
    exact ((Fr.of (fun q => q = gr ∨ w.heap.size ≤ q) hBb).go (Fr.gb hg1) fun q e => .inl (.inl (by injection e with e; exact e.symm))).go (Fr.set _ _ _ _) fun q e => .inl (.inr (by rw [e]; omega))
  have hrs2 : RdS lo w2 gr := by rw [hw2]; exact hr1.fr (Fr.set _ _ _ _) (show gr < w.heap.size + 1 by omega) (Nat.le_refl _)
  have hgo2 : w2.heap[w.heap.size + 1]? = some (.cells ((gd0 wd).cells (gc0 lo gr (w.heap.size + 1) (.slice Ar pars.length cr) (.slice Ap pars.length cp) pars)).toArray 141 (0, 0)) := by rw [hw2]; exact (heap_set hgo1).trans (by simp [GD.cells, gd0, gc0])
  have hro2 : Hd (w2.heap[w.heap.size]? = some (.cells #[.slice none 0 0, .int .i64 0, .slice none 0 0] 35 (0, 0))) := ⟨by rw [hw2]; exact heap_off hro1 (by omega)⟩
  have hgs := gs_init hgo2 hrs2 (by omega) hwd (hR.go hF2 fun q e => .inl (by rcases e with e | e; exact .inl e; exact .inr (Nat.le_trans (Nat.le_succ _) e))) (hA.go hF2 fun q e => .inl (by rcases e with e | e; exact .inl e; exact .inr (Nat.le_trans (Nat.le_succ _) e))) hn hw
  have hF2' := Hd.mk hF2
  obtain ⟨C, hC⟩ : ∃ C : GC, C = gc0 lo gr (w.heap.size + 1) (.slice Ar pars.length cr) (.slice Ap pars.length cp) pars := ⟨_, rfl⟩
  obtain ⟨D0, hD0⟩ : ∃ D0 : GD, D0 = gd0 wd := ⟨_, rfl⟩
  rw [← hC, ← hD0] at hgs
  have c1 : w.heap.size + 1 = C.gg := by rw [hC]; rfl
  have c2 : gr = C.gr := by rw [hC]; rfl
  have c3 : lo = C.lo := by rw [hC]; rfl
  have c4 : C.fl = C.gg := by rw [hC]; rfl
  have g0 : Hd (GP C D0 D0 w2 w2) := ⟨GP.refl hgs⟩
  have hga := Hd.mk (GK.ga hgs)
  have b0 : Hd (Grown 0 0 D0 ∧ D0.ps.length = 0) := ⟨by rw [hD0]; exact ⟨⟨Nat.le_refl _, ⟨by show (0 : Int) ≤ 0; decide, by show (0 : Int) ≤ 0; decide, by show (0 : Int) ≤ 0; decide⟩, by show (0 : Int) ≤ 0; decide⟩, rfl⟩⟩
  have hp := s_below lo gr 3 w2 hrs2 (by omega)
  rw [c1] at f1 e1 hw2
  have hw2' := Hd.mk hw2
  have hz1' : C.gg < w1.heap.size := by omega
  clear hw2 hgo hgo1 hgo2 hrs hrs2 hro hro1 hBb hg1 hr1 hF2 hC hgs hR hA
  rw [c1]
  have c1' := Hd.mk c1
  have c4' := Hd.mk c4
  clear c1 c4 hD0
  subst c2
  subst c3
  have hz2' := Hd.mk hz2
  clear hz2 hzb
  go_wp2_with fail
  rw [← hw2'.out]
  refine hp.mono ?_; rintro e w3 ⟨v, rfl, ⟨q0, rfl, q1, q2⟩, hr, hg⟩
  have g1 := Hd.mk (g0.out.trans (g0.out.gs.rd hg hr))
  obtain ⟨i0, rfl⟩ : ∃ i : Nat, q0 = i := ⟨q0.toNat, by omega⟩
  have hi2 : i0 ≤ 2 := by omega
  clear hr hg hp q1 q2 hz1 hz1' f1 e1 hw2'
  go_wp2
  go_loopw [8] (fun s8 wr => ∃ (i : Nat) (D1 : GD), i ≤ 2 ∧ s8 = .int .i64 i ∧ Hd (GP C D0 D1 w2 wr) ∧ Hd (Grown 0 (2 - i) D1 ∧ D1.ps.length + i ≤ 2)) (fun s8 _ => (intOf s8).toNat)
  case atStart => exact ⟨i0, D0, hi2, rfl, g1, ⟨⟨b0.out.1.1, b0.out.1.2.1, by have := b0.out.1.2.2; omega⟩, by have := b0.out.2; omega⟩⟩
  case round =>
    obtain ⟨i, D1, hi, rfl, g2, b2⟩ := hrel
    clear g0 b0 g1
    by_cases hi0 : 0 < i
    · obtain ⟨j, rfl⟩ : ∃ j, i = j + 1 := ⟨i - 1, by omega⟩
      have hpos : (0 : Int) < ((j + 1 : Nat) : Int) := by omega
      have hwj : IntKind.i64.wrap (((j + 1 : Nat) : Int) - 1) = (j : Int) := by rw [IntWalk.i64_in _ (by omega)]; omega
      have hp := s_width C.lo C.gr wr g2.out.gs.rs
      go_wp2_with fail
      refine hp.mono ?_; rintro e w4 ⟨v, rfl, ⟨wd4, rfl, hwd4⟩, hr, hg⟩
      have g3 := Hd.mk (g2.out.trans (g2.out.gs.rd hg hr))
      have hwd4' := Hd.mk hwd4
      clear hr hg hp hwd4
      have j1 := g3.out.gs.at 1
      simp [GD.cells] at j1
      have hoP := Hd.mk g3.out.gs.oP
      have hal := Hd.mk fun (o : Obj) => (Below.refl w4.heap.size w4).al (Nat.le_refl _) o
      have hlt4 := g3.out.gs.lt
      have fz4 := g3.out.gs.fz
      have hrw := Hd.mk (g3.out.gs.out g3.out.gs.oP (by decide) (by decide))
      go_wp2_with (at_builtin; refine appI_at rfl _ _ rfl C.fl D1.vP D1.ps [wd4] rfl (own_mv hoP.out (hal.out _)) _ 1 1 rfl (rd_one _ _) (by have := b2.out.2; omega) (by have := c4'.out; simp; omega) ?_)
      intro v' w5 ho5 hg5 hn5
      obtain ⟨Av, cv, rfl, -, -⟩ := own_shape ho5
      have hg3 := g3.out.gs.mv (hal.out (.cells #[.int .i64 wd4] 2))
      have h5c := hg3.gs.at' hg5 (fun e => (hrw.out _ e).1 rfl)
      have f5 := (row_facts h5c).2
      have d5 := (row_facts h5c).1 1
      simp [GD.cells] at d5
      have hgp := Hd.mk (g3.out.trans (hg3.trans (hg3.gs.par (.slice Av (D1.ps.length + 1) cv) wd4 hwd4'.out hg5 (by simpa using ho5) (by simpa using hn5) (Fr.set _ C.gg 1 (.slice Av (D1.ps.length + 1) cv)) ((heap_set h5c).trans (by simp [GD.cells])) (by have := b2.out.2; omega))))
      have hl5 : C.gg < w5.heap.size := (Array.getElem?_eq_some_iff.1 h5c).1
      clear h5c ho5 hg5 hn5 hg3
      have hadd := fun W' hW' => s_add C {D1 with vP := .slice Av (D1.ps.length + 1) cv, ps := D1.ps ++ [wd4]} wd4 W' hW' (by have := b2.out.1.2.2; simp only; omega) (by have := b2.out.1.2.2; have := b2.out.1.2.1.2.2; simp only; omega)
      go_wp2_with fail
      refine (hadd _ hgp.out.gs).mono ?_; rintro e w6 ⟨q, vids, vws, rfl, hg6⟩
      have hg6' := Hd.mk (hgp.out.trans hg6)
      clear hg6 hadd
      go_wp2
      go_roundw
      case rel => exact ⟨j, _, by omega, by go_num, hg6', ⟨⟨b2.out.1.1, ⟨by have := b2.out.1.2.1.1; simp only; omega, by have := b2.out.1.2.1.2.1; simp only; omega, by have := b2.out.1.2.1.2.2; simp only; omega⟩, by have := b2.out.1.2.2; simp only; omega⟩, by have := b2.out.2; simp; omega⟩⟩
      case measure => simp [intOf] <;> omega
    obtain rfl : i = 0 := by omega
    obtain ⟨w1, rfl⟩ : ∃ w1 : World, w1 = wr := ⟨_, rfl⟩
    have g1 := g2
    have b1 : Hd (Grown 0 2 D1) := ⟨by simpa using b2.out.1⟩
    clear g2 b2 hi hi0
    have hp := s_below C.lo C.gr 5 w1 g1.out.gs.rs (by omega)
    go_wp2_with fail
    refine hp.mono ?_; rintro e w2 ⟨v, rfl, ⟨p0, rfl, p1, p2⟩, hr, hg⟩
    have g2 := Hd.mk (g1.out.trans (g1.out.gs.rd hg hr))
    clear hr hg hp
    have hwp : IntKind.i64.wrap (1 + p0) = 1 + p0 := IntWalk.i64_in _ (by omega)
    have hp := s_some C D1 (1 + p0) w2 g2.out.gs b1.out.2.1 (by have h9 := b1.out.2.2; omega) (by omega)
    go_wp2_with fail
    refine hp.mono ?_; rintro e w3 ⟨D2, rfl, hg, hi, hn'⟩
    have g3 := Hd.mk (g2.out.trans hg)
    have b2 := Hd.mk (b1.out.ins (hi.mono (show 5 * (1 + p0) ≤ 25 by omega)) hn')
    clear hg hi hn' hp
    clear hwp p1 p2
    have hp := s_below C.lo C.gr 4 w3 g3.out.gs.rs (by omega)
    go_wp2_with fail
    refine hp.mono ?_; rintro e w4 ⟨v, rfl, ⟨t0, rfl, t1, t2⟩, hr, hg⟩
    have g4 := Hd.mk (g3.out.trans (g3.out.gs.rd hg hr))
    clear hr hg hp
    have ht4 : t0 = 0 ∨ t0 = 1 ∨ t0 = 2 ∨ t0 = 3 := by omega
    clear t1 t2
    rcases ht4 with rfl | rfl | rfl | rfl
    · have hp := s_fork C D2 w4 g4.out.gs b2.out.2.1 (by have h9 := b2.out.2.2; omega) (by have h9 := b2.out.1; omega)
      go_wp2_with fail
      refine hp.mono ?_; rintro e w5 ⟨D3, rfl, hg, hi⟩
      have g5 := Hd.mk (g4.out.trans hg)
      have b3 := Hd.mk (b2.out.blk hi)
      clear hg hi hp
      have hp := s_below C.lo C.gr 3 w5 g5.out.gs.rs (by omega)
      go_wp2_with fail
      refine hp.mono ?_; rintro e w6 ⟨v, rfl, ⟨u0, rfl, u1, u2⟩, hr, hg⟩
      have g6 := Hd.mk (g5.out.trans (g5.out.gs.rd hg hr))
      clear hr hg hp
      have hp := s_some C D3 (u0) w6 g6.out.gs b3.out.2.1 (by have h9 := b3.out.2.2; omega) (by omega)
      go_wp2_with fail
      refine hp.mono ?_; rintro e w7 ⟨D4, rfl, hg, hi, hn'⟩
      have g7 := Hd.mk (g6.out.trans hg)
      have b4 := Hd.mk (b3.out.ins (hi.mono (show 5 * (u0) ≤ 10 by omega)) hn')
      clear hg hi hn' hp
      clear u1 u2
      have hp := s_ends C D4 w7 g7.out.gs b4.out.2.1 (by have h9 := b4.out.2.2; omega) (by have h9 := b4.out.1; omega)
      go_wp2_with fail
      refine hp.mono ?_; rintro e w8 ⟨D5, rfl, hg, hi⟩
      have hnB : 1 ≤ D5.nB := by have := hi.2.2.2.1; omega
      have g8 := Hd.mk (g7.out.trans hg)
      clear hg hi hp
      have j1 := g8.out.gs.at 1
      have j2 := g8.out.gs.at 2
      have j3 := g8.out.gs.at 3
      simp [GD.cells] at j1 j2 j3
      obtain ⟨A1, n1, v1, -, -, -, -⟩ := own_shape g8.out.gs.oP
      obtain ⟨A3, n3, v3, -, -, -, -⟩ := own_shape g8.out.gs.oB
      rw [v1] at j1
      rw [v3] at j3
      have hrh := (g8.out.fk.block w.heap.size (Array.getElem?_eq_some_iff.1 hro2.out).1 (fun e => by have c1 := c1'.out; have c4 := c4'.out; rcases hga.out _ e with e | e <;> omega)).trans hro2.out
      have hzr := (Array.getElem?_eq_some_iff.1 hrh).1
      have hrb := row_facts hrh
      have y0 := hrb.1 0
      have y1 := hrb.1 1
      have y2 := hrb.1 2
      have yf := hrb.2
      simp at y0 y1 y2
      have hfe := g8.out.gs.func hnB
      rw [v1, v3] at hfe
      have hfe' := Hd.mk hfe
      have hrsK := Hd.mk (show RdS C.lo w8 C.gr from g8.out.gs.rs)
      have hfk := Hd.mk (g8.out.fk)
      have hlk := g8.out.gs.lt
      clear hrb hfe hrh v1 v3
      go_wp2
      refine bodyPost_ret (v := .agg #[.slice A1 D5.ps.length n1, .int .i64 D5.ret, .slice A3 D5.nB n3]) (by simp [results, Tryz.results78, go_sem, y0, y1, y2]) rfl ⟨_, rfl, hfe'.out.go (fr3 (w := w8) (b := w.heap.size) (fun q => q < C.fl ∨ w8.heap.size ≤ q) _ _ _ (.inl (by have c1 := c1'.out; have c4 := c4'.out; omega))) (fun q e => .inl ?_), ?_, ?_⟩
      · rcases e with e | e
        · exact .inl (by have c1 := c1'.out; have c4 := c4'.out; omega)
        · exact .inr (by simpa [World.setCell] using e)
      · exact hrsK.out.fr (fr3 (fun q => q = w.heap.size) _ _ _ rfl) hgl (Nat.le_refl _)
      · exact fr_gb ((hF2'.out.go hfk.out fun q e => .inl (by rcases hga.out _ e with e | e; exact .inl e; exact .inr (by have c1 := c1'.out; have c4 := c4'.out; omega))).go (fr3 (fun q => q = w.heap.size) _ _ _ rfl) fun q e => .inl (.inr (by rw [e]; exact Nat.le_refl _)))
    · have hp := s_loop C D2 w4 g4.out.gs b2.out.2.1 (by have h9 := b2.out.2.2; omega) (by have h9 := b2.out.1; omega)
      go_wp2_with fail
      refine hp.mono ?_; rintro e w5 ⟨D3, rfl, hg, hi⟩
      have g5 := Hd.mk (g4.out.trans hg)
      have b3 := Hd.mk (b2.out.blk hi)
      clear hg hi hp
      have hp := s_below C.lo C.gr 3 w5 g5.out.gs.rs (by omega)
      go_wp2_with fail
      refine hp.mono ?_; rintro e w6 ⟨v, rfl, ⟨u0, rfl, u1, u2⟩, hr, hg⟩
      have g6 := Hd.mk (g5.out.trans (g5.out.gs.rd hg hr))
      clear hr hg hp
      have hp := s_some C D3 (u0) w6 g6.out.gs b3.out.2.1 (by have h9 := b3.out.2.2; omega) (by omega)
      go_wp2_with fail
      refine hp.mono ?_; rintro e w7 ⟨D4, rfl, hg, hi, hn'⟩
      have g7 := Hd.mk (g6.out.trans hg)
      have b4 := Hd.mk (b3.out.ins (hi.mono (show 5 * (u0) ≤ 10 by omega)) hn')
      clear hg hi hn' hp
      clear u1 u2
      have hp := s_ends C D4 w7 g7.out.gs b4.out.2.1 (by have h9 := b4.out.2.2; omega) (by have h9 := b4.out.1; omega)
      go_wp2_with fail
      refine hp.mono ?_; rintro e w8 ⟨D5, rfl, hg, hi⟩
      have hnB : 1 ≤ D5.nB := by have := hi.2.2.2.1; omega
      have g8 := Hd.mk (g7.out.trans hg)
      clear hg hi hp
      have j1 := g8.out.gs.at 1
      have j2 := g8.out.gs.at 2
      have j3 := g8.out.gs.at 3
      simp [GD.cells] at j1 j2 j3
      obtain ⟨A1, n1, v1, -, -, -, -⟩ := own_shape g8.out.gs.oP
      obtain ⟨A3, n3, v3, -, -, -, -⟩ := own_shape g8.out.gs.oB
      rw [v1] at j1
      rw [v3] at j3
      have hrh := (g8.out.fk.block w.heap.size (Array.getElem?_eq_some_iff.1 hro2.out).1 (fun e => by have c1 := c1'.out; have c4 := c4'.out; rcases hga.out _ e with e | e <;> omega)).trans hro2.out
      have hzr := (Array.getElem?_eq_some_iff.1 hrh).1
      have hrb := row_facts hrh
      have y0 := hrb.1 0
      have y1 := hrb.1 1
      have y2 := hrb.1 2
      have yf := hrb.2
      simp at y0 y1 y2
      have hfe := g8.out.gs.func hnB
      rw [v1, v3] at hfe
      have hfe' := Hd.mk hfe
      have hrsK := Hd.mk (show RdS C.lo w8 C.gr from g8.out.gs.rs)
      have hfk := Hd.mk (g8.out.fk)
      have hlk := g8.out.gs.lt
      clear hrb hfe hrh v1 v3
      go_wp2
      refine bodyPost_ret (v := .agg #[.slice A1 D5.ps.length n1, .int .i64 D5.ret, .slice A3 D5.nB n3]) (by simp [results, Tryz.results78, go_sem, y0, y1, y2]) rfl ⟨_, rfl, hfe'.out.go (fr3 (w := w8) (b := w.heap.size) (fun q => q < C.fl ∨ w8.heap.size ≤ q) _ _ _ (.inl (by have c1 := c1'.out; have c4 := c4'.out; omega))) (fun q e => .inl ?_), ?_, ?_⟩
      · rcases e with e | e
        · exact .inl (by have c1 := c1'.out; have c4 := c4'.out; omega)
        · exact .inr (by simpa [World.setCell] using e)
      · exact hrsK.out.fr (fr3 (fun q => q = w.heap.size) _ _ _ rfl) hgl (Nat.le_refl _)
      · exact fr_gb ((hF2'.out.go hfk.out fun q e => .inl (by rcases hga.out _ e with e | e; exact .inl e; exact .inr (by have c1 := c1'.out; have c4 := c4'.out; omega))).go (fr3 (fun q => q = w.heap.size) _ _ _ rfl) fun q e => .inl (.inr (by rw [e]; exact Nat.le_refl _)))
    · have hp := s_fork C D2 w4 g4.out.gs b2.out.2.1 (by have h9 := b2.out.2.2; omega) (by have h9 := b2.out.1; omega)
      go_wp2_with fail
      refine hp.mono ?_; rintro e w5 ⟨D3, rfl, hg, hi⟩
      have g5 := Hd.mk (g4.out.trans hg)
      have b3 := Hd.mk (b2.out.blk hi)
      clear hg hi hp
      have hp := s_below C.lo C.gr 3 w5 g5.out.gs.rs (by omega)
      go_wp2_with fail
      refine hp.mono ?_; rintro e w6 ⟨v, rfl, ⟨s0, rfl, s1, s2⟩, hr, hg⟩
      have g6 := Hd.mk (g5.out.trans (g5.out.gs.rd hg hr))
      clear hr hg hp
      have hp := s_some C D3 (s0) w6 g6.out.gs b3.out.2.1 (by have h9 := b3.out.2.2; omega) (by omega)
      go_wp2_with fail
      refine hp.mono ?_; rintro e w7 ⟨D4, rfl, hg, hi, hn'⟩
      have g7 := Hd.mk (g6.out.trans hg)
      have b4 := Hd.mk (b3.out.ins (hi.mono (show 5 * (s0) ≤ 10 by omega)) hn')
      clear hg hi hn' hp
      clear s1 s2
      have hp := s_loop C D4 w7 g7.out.gs b4.out.2.1 (by have h9 := b4.out.2.2; omega) (by have h9 := b4.out.1; omega)
      go_wp2_with fail
      refine hp.mono ?_; rintro e w8 ⟨D5, rfl, hg, hi⟩
      have g8 := Hd.mk (g7.out.trans hg)
      have b5 := Hd.mk (b4.out.blk hi)
      clear hg hi hp
      have hp := s_below C.lo C.gr 3 w8 g8.out.gs.rs (by omega)
      go_wp2_with fail
      refine hp.mono ?_; rintro e w9 ⟨v, rfl, ⟨u0, rfl, u1, u2⟩, hr, hg⟩
      have g9 := Hd.mk (g8.out.trans (g8.out.gs.rd hg hr))
      clear hr hg hp
      have hp := s_some C D5 (u0) w9 g9.out.gs b5.out.2.1 (by have h9 := b5.out.2.2; omega) (by omega)
      go_wp2_with fail
      refine hp.mono ?_; rintro e w10 ⟨D6, rfl, hg, hi, hn'⟩
      have g10 := Hd.mk (g9.out.trans hg)
      have b6 := Hd.mk (b5.out.ins (hi.mono (show 5 * (u0) ≤ 10 by omega)) hn')
      clear hg hi hn' hp
      clear u1 u2
      have hp := s_ends C D6 w10 g10.out.gs b6.out.2.1 (by have h9 := b6.out.2.2; omega) (by have h9 := b6.out.1; omega)
      go_wp2_with fail
      refine hp.mono ?_; rintro e w11 ⟨D7, rfl, hg, hi⟩
      have hnB : 1 ≤ D7.nB := by have := hi.2.2.2.1; omega
      have g11 := Hd.mk (g10.out.trans hg)
      clear hg hi hp
      have j1 := g11.out.gs.at 1
      have j2 := g11.out.gs.at 2
      have j3 := g11.out.gs.at 3
      simp [GD.cells] at j1 j2 j3
      obtain ⟨A1, n1, v1, -, -, -, -⟩ := own_shape g11.out.gs.oP
      obtain ⟨A3, n3, v3, -, -, -, -⟩ := own_shape g11.out.gs.oB
      rw [v1] at j1
      rw [v3] at j3
      have hrh := (g11.out.fk.block w.heap.size (Array.getElem?_eq_some_iff.1 hro2.out).1 (fun e => by have c1 := c1'.out; have c4 := c4'.out; rcases hga.out _ e with e | e <;> omega)).trans hro2.out
      have hzr := (Array.getElem?_eq_some_iff.1 hrh).1
      have hrb := row_facts hrh
      have y0 := hrb.1 0
      have y1 := hrb.1 1
      have y2 := hrb.1 2
      have yf := hrb.2
      simp at y0 y1 y2
      have hfe := g11.out.gs.func hnB
      rw [v1, v3] at hfe
      have hfe' := Hd.mk hfe
      have hrsK := Hd.mk (show RdS C.lo w11 C.gr from g11.out.gs.rs)
      have hfk := Hd.mk (g11.out.fk)
      have hlk := g11.out.gs.lt
      clear hrb hfe hrh v1 v3
      go_wp2
      refine bodyPost_ret (v := .agg #[.slice A1 D7.ps.length n1, .int .i64 D7.ret, .slice A3 D7.nB n3]) (by simp [results, Tryz.results78, go_sem, y0, y1, y2]) rfl ⟨_, rfl, hfe'.out.go (fr3 (w := w11) (b := w.heap.size) (fun q => q < C.fl ∨ w11.heap.size ≤ q) _ _ _ (.inl (by have c1 := c1'.out; have c4 := c4'.out; omega))) (fun q e => .inl ?_), ?_, ?_⟩
      · rcases e with e | e
        · exact .inl (by have c1 := c1'.out; have c4 := c4'.out; omega)
        · exact .inr (by simpa [World.setCell] using e)
      · exact hrsK.out.fr (fr3 (fun q => q = w.heap.size) _ _ _ rfl) hgl (Nat.le_refl _)
      · exact fr_gb ((hF2'.out.go hfk.out fun q e => .inl (by rcases hga.out _ e with e | e; exact .inl e; exact .inr (by have c1 := c1'.out; have c4 := c4'.out; omega))).go (fr3 (fun q => q = w.heap.size) _ _ _ rfl) fun q e => .inl (.inr (by rw [e]; exact Nat.le_refl _)))
    · have hp := s_below C.lo C.gr 3 w4 g4.out.gs.rs (by omega)
      go_wp2_with fail
      refine hp.mono ?_; rintro e w5 ⟨v, rfl, ⟨u0, rfl, u1, u2⟩, hr, hg⟩
      have g5 := Hd.mk (g4.out.trans (g4.out.gs.rd hg hr))
      clear hr hg hp
      have hp := s_some C D2 (u0) w5 g5.out.gs b2.out.2.1 (by have h9 := b2.out.2.2; omega) (by omega)
      go_wp2_with fail
      refine hp.mono ?_; rintro e w6 ⟨D3, rfl, hg, hi, hn'⟩
      have g6 := Hd.mk (g5.out.trans hg)
      have b3 := Hd.mk (b2.out.ins (hi.mono (show 5 * (u0) ≤ 10 by omega)) hn')
      clear hg hi hn' hp
      clear u1 u2
      have hp := s_ends C D3 w6 g6.out.gs b3.out.2.1 (by have h9 := b3.out.2.2; omega) (by have h9 := b3.out.1; omega)
      go_wp2_with fail
      refine hp.mono ?_; rintro e w7 ⟨D4, rfl, hg, hi⟩
      have hnB : 1 ≤ D4.nB := by have := hi.2.2.2.1; omega
      have g7 := Hd.mk (g6.out.trans hg)
      clear hg hi hp
      have j1 := g7.out.gs.at 1
      have j2 := g7.out.gs.at 2
      have j3 := g7.out.gs.at 3
      simp [GD.cells] at j1 j2 j3
      obtain ⟨A1, n1, v1, -, -, -, -⟩ := own_shape g7.out.gs.oP
      obtain ⟨A3, n3, v3, -, -, -, -⟩ := own_shape g7.out.gs.oB
      rw [v1] at j1
      rw [v3] at j3
      have hrh := (g7.out.fk.block w.heap.size (Array.getElem?_eq_some_iff.1 hro2.out).1 (fun e => by have c1 := c1'.out; have c4 := c4'.out; rcases hga.out _ e with e | e <;> omega)).trans hro2.out
      have hzr := (Array.getElem?_eq_some_iff.1 hrh).1
      have hrb := row_facts hrh
      have y0 := hrb.1 0
      have y1 := hrb.1 1
      have y2 := hrb.1 2
      have yf := hrb.2
      simp at y0 y1 y2
      have hfe := g7.out.gs.func hnB
      rw [v1, v3] at hfe
      have hfe' := Hd.mk hfe
      have hrsK := Hd.mk (show RdS C.lo w7 C.gr from g7.out.gs.rs)
      have hfk := Hd.mk (g7.out.fk)
      have hlk := g7.out.gs.lt
      clear hrb hfe hrh v1 v3
      go_wp2
      refine bodyPost_ret (v := .agg #[.slice A1 D4.ps.length n1, .int .i64 D4.ret, .slice A3 D4.nB n3]) (by simp [results, Tryz.results78, go_sem, y0, y1, y2]) rfl ⟨_, rfl, hfe'.out.go (fr3 (w := w7) (b := w.heap.size) (fun q => q < C.fl ∨ w7.heap.size ≤ q) _ _ _ (.inl (by have c1 := c1'.out; have c4 := c4'.out; omega))) (fun q e => .inl ?_), ?_, ?_⟩
      · rcases e with e | e
        · exact .inl (by have c1 := c1'.out; have c4 := c4'.out; omega)
        · exact .inr (by simpa [World.setCell] using e)
      · exact hrsK.out.fr (fr3 (fun q => q = w.heap.size) _ _ _ rfl) hgl (Nat.le_refl _)
      · exact fr_gb ((hF2'.out.go hfk.out fun q e => .inl (by rcases hga.out _ e with e | e; exact .inl e; exact .inr (by have c1 := c1'.out; have c4 := c4'.out; omega))).go (fr3 (fun q => q = w.heap.size) _ _ _ rfl) fun q e => .inl (.inr (by rw [e]; exact Nat.le_refl _)))
end Go.Proofs.YtkcgejbnhpccdaaGreat
