import Derived.Test.YtkcgejbnhpccdaaGreatT36
set_option linter.unusedSimpArgs false
set_option linter.unusedVariables false
namespace Go.Proofs.YtkcgejbnhpccdaaGreat
open Go.RowKit
set_option maxRecDepth 20000 in
set_option maxHeartbeats 20000000 in
theorem s_loop (C : GC) (D : GD) (W : World) (h : GS C D W) (hm : Nm D) (hn : D.next ≤ 700) (hb : D.nB ≤ 50) : Calls Tryz.prog 116 #[.pointer (some ⟨C.gg, 0, none⟩)] W (RetB 3 40 C D W) := by
  have hd0 := h.n0
  obtain ⟨w1, rfl⟩ : ∃ w1 : World, w1 = W := ⟨_, rfl⟩
  obtain ⟨D1, hD1⟩ : ∃ D1 : GD, D1 = D := ⟨_, rfl⟩
  have g1 : Hd (GP C D D1 w1 w1) := ⟨by rw [hD1]; exact GP.refl h⟩
  have b1 : Hd (BlkR 0 0 D D1) := ⟨by rw [hD1]; exact (InsR.refl D).blk hm⟩
  have k3 := h.at 3
  simp [GD.cells] at k3
  obtain ⟨Ab, cb, hvb, -, -, -, -⟩ := own_shape h.oB
  rw [hvb] at k3
  clear h hm hD1
  go_enter Tryz.func116, Tryz.ntmps116
  have hwb : IntKind.i64.wrap (D.nB : Int) = D.nB := IntWalk.i64_in _ (by omega)
  have hwc : IntKind.i64.wrap ((D.nB : Int) + 1) = (D.nB : Int) + 1 := IntWalk.i64_in _ (by omega)
  have j0 := g1.out.gs.at 0
  simp [GD.cells] at j0
  have hp := s_below C.lo C.gr 5 w1 g1.out.gs.rs (by omega)
  go_wp2_with fail
  refine hp.mono ?_; rintro e w2 ⟨v, rfl, ⟨q, rfl, q1, q2⟩, hr, hg⟩
  have s2 := Hd.mk (g1.out.gs.rd hg hr)
  have g2 := Hd.mk (g1.out.trans s2.out)
  clear hr hg hp j0
  have hp := s_put C D1 ⟨21, 8, 0, 0, 0, q, []⟩ none 0 0 w2 g2.out.gs b1.out.2.2.2.2.1 (by obtain ⟨-, -, -, h4, -, h6, h7⟩ := b1.out; omega) (kinst_nil _ _ _ _ _ _ _ _) (no24n (show (21 : Int) < 24 by decide))
  go_wp2_with fail
  refine hp.mono ?_; rintro e w3 ⟨xn, D2, rfl, hg, hi, hn'⟩
  have s3 := Hd.mk hg
  have g3 := Hd.mk (g2.out.trans hg)
  have b2 := Hd.mk (b1.out.ins hi)
  clear hg hi hn' hp
  clear q1 q2
  have j0 := g3.out.gs.at 0
  simp [GD.cells] at j0
  have hp := s_width C.lo C.gr w3 g3.out.gs.rs
  go_wp2_with fail
  refine hp.mono ?_; rintro e w4 ⟨v, rfl, ⟨wd, rfl, hwd⟩, hr, hg⟩
  have s4 := Hd.mk (g3.out.gs.rd hg hr)
  have g4 := Hd.mk (g3.out.trans s4.out)
  clear hr hg hp j0
  have hwd' := Hd.mk hwd
  clear hwd
  have hp := s_pick C D2 wd w4 g4.out.gs b2.out.2.2.2.2.1 (by obtain ⟨-, -, -, h4, -, h6, h7⟩ := b2.out; omega) hwd'.out
  go_wp2_with fail
  refine hp.mono ?_; rintro e w5 ⟨xa, D3, rfl, hg, hi, hn'⟩
  have s5 := Hd.mk hg
  have g5 := Hd.mk (g4.out.trans hg)
  have b3 := Hd.mk (b2.out.ins hi)
  clear hg hi hn' hp
  clear k3
  have hp := s_close C D3 ⟨2, 0, (D.nB : Int) + 1, 0⟩ w5 g5.out.gs (by obtain ⟨-, -, -, h4, -, h6, h7⟩ := b3.out; omega)
  go_wp2_with fail
  refine hp.mono ?_; rintro e w6 ⟨v', rfl, hg, hfr⟩
  have fx4 := Hd.mk (show (closed {D3 with tm := ⟨2, 0, (D.nB : Int) + 1, 0⟩} v').nPh = 0 ∧ (closed {D3 with tm := ⟨2, 0, (D.nB : Int) + 1, 0⟩} v').cPh = [] from ⟨rfl, rfl⟩)
  obtain ⟨D4, hD⟩ : ∃ D' : GD, D' = closed {D3 with tm := ⟨2, 0, (D.nB : Int) + 1, 0⟩} v' := ⟨_, rfl⟩
  have b4 := Hd.mk (b3.out.cls ⟨2, 0, (D.nB : Int) + 1, 0⟩ v')
  rw [← hD] at hg b4 fx4
  have s6 := Hd.mk hg
  have g6 := Hd.mk (g5.out.trans hg)
  clear hg hp hD hfr
  have hal := (Below.refl w6.heap.size w6).al (Nat.le_refl _) (.cells #[.int .i64 xn, .int .i64 0] 2)
  have sa := g6.out.gs.mv hal
  have hp := s_phi C D4 8 (some ⟨w6.heap.size, 0, none⟩) 2 2 _ sa.gs b4.out.2.2.2.2.1 (by obtain ⟨-, -, -, h4, -, h6, h7⟩ := b4.out; omega) (phi_new g6.out.gs 8 xn 0)
  go_wp2_with fail
  refine hp.mono ?_; rintro e w7 ⟨q1, v', vids, vws, rfl, hg⟩
  have hbs := (Bs.new g6.out.gs #[.int .i64 xn, .int .i64 0] 2).mv hg
  have hle1 := Hd.mk (Nat.le_trans (g6.out.fr.size) (Nat.le_refl w6.heap.size))
  have fx5 := Hd.mk (show D4.nPh + 1 = 1 ∧ D4.cPh ++ [.int .i64 8, .slice (some ⟨w6.heap.size, 0, none⟩) 2 2] = [.int .i64 8, .slice (some ⟨w6.heap.size, 0, none⟩) 2 2] by rw [fx4.out.1, fx4.out.2]; exact ⟨rfl, rfl⟩)
  obtain ⟨D5, hD⟩ : ∃ D' : GD, D' = {D4 with vPh := v', nPh := D4.nPh + 1, cPh := D4.cPh ++ [.int .i64 8, .slice (some ⟨w6.heap.size, 0, none⟩) 2 2], next := D4.next + 1, vids := vids, vws := vws, nid := D4.nid + 1} := ⟨_, rfl⟩
  have b5 := Hd.mk (b4.out.phi v' (D4.cPh ++ [.int .i64 8, .slice (some ⟨w6.heap.size, 0, none⟩) 2 2]) vids vws)
  rw [← hD] at hg b5 hbs
  have fx5 := Hd.mk (show D5.nPh = 1 ∧ D5.cPh = _ by rw [hD]; exact fx5.out)
  have s7 := Hd.mk (sa.trans hg)
  have g7 := Hd.mk (g6.out.trans s7.out)
  have t1 := Hd.mk hbs
  clear hg hp hD sa hal hbs
  obtain ⟨p1, hp1⟩ : ∃ p, p = w6.heap.size := ⟨_, rfl⟩
  rw [← hp1] at t1 hle1 fx5
  clear hp1
  have hal := (Below.refl w7.heap.size w7).al (Nat.le_refl _) (.cells #[.int .i64 xa, .int .i64 0] 2)
  have sa := g7.out.gs.mv hal
  have hp := s_phi C D5 wd (some ⟨w7.heap.size, 0, none⟩) 2 2 _ sa.gs b5.out.2.2.2.2.1 (by obtain ⟨-, -, -, h4, -, h6, h7⟩ := b5.out; omega) (phi_new g7.out.gs wd xa 0)
  go_wp2_with fail
  refine hp.mono ?_; rintro e w8 ⟨q2, v', vids, vws, rfl, hg⟩
  have hbs := (Bs.new g7.out.gs #[.int .i64 xa, .int .i64 0] 2).mv hg
  have hle2 := Hd.mk (Nat.le_trans (g7.out.fr.size) (Nat.le_refl w7.heap.size))
  have fx6 := Hd.mk (show D5.nPh + 1 = 2 ∧ D5.cPh ++ [.int .i64 wd, .slice (some ⟨w7.heap.size, 0, none⟩) 2 2] = [.int .i64 8, .slice (some ⟨p1, 0, none⟩) 2 2] ++ [.int .i64 wd, .slice (some ⟨w7.heap.size, 0, none⟩) 2 2] by rw [fx5.out.1, fx5.out.2]; exact ⟨rfl, rfl⟩)
  obtain ⟨D6, hD⟩ : ∃ D' : GD, D' = {D5 with vPh := v', nPh := D5.nPh + 1, cPh := D5.cPh ++ [.int .i64 wd, .slice (some ⟨w7.heap.size, 0, none⟩) 2 2], next := D5.next + 1, vids := vids, vws := vws, nid := D5.nid + 1} := ⟨_, rfl⟩
  have b6 := Hd.mk (b5.out.phi v' (D5.cPh ++ [.int .i64 wd, .slice (some ⟨w7.heap.size, 0, none⟩) 2 2]) vids vws)
  rw [← hD] at hg b6 hbs
  have fx6 := Hd.mk (show D6.nPh = 2 ∧ D6.cPh = _ by rw [hD]; exact fx6.out)
  have s8 := Hd.mk (sa.trans hg)
  have g8 := Hd.mk (g7.out.trans s8.out)
  have t2 := Hd.mk hbs
  clear hg hp hD sa hal hbs
  have tne : Hd (p1 ≠ w7.heap.size) := ⟨by have h1 := (Array.getElem?_eq_some_iff.1 t1.out.heap).1; omega⟩
  obtain ⟨p2, hp2⟩ : ∃ p, p = w7.heap.size := ⟨_, rfl⟩
  rw [← hp2] at t2 hle2 fx6 tne
  clear hp2
  have hp := s_put C D6 ⟨21, 8, 0, 0, 0, 0, []⟩ none 0 0 w8 g8.out.gs b6.out.2.2.2.2.1 (by obtain ⟨-, -, -, h4, -, h6, h7⟩ := b6.out; omega) (kinst_nil _ _ _ _ _ _ _ _) (no24n (show (21 : Int) < 24 by decide))
  go_wp2_with fail
  refine hp.mono ?_; rintro e w9 ⟨xz, D7, rfl, hg, hi, hn'⟩
  have fx7 := Hd.mk (show D7.nPh = 2 ∧ D7.cPh = [.int .i64 8, .slice (some ⟨p1, 0, none⟩) 2 2] ++ [.int .i64 wd, .slice (some ⟨p2, 0, none⟩) 2 2] by obtain ⟨-, h2, h3, -⟩ := hi.same; rw [h2, h3]; exact fx6.out)
  have s9 := Hd.mk hg
  have g9 := Hd.mk (g8.out.trans hg)
  have b7 := Hd.mk (b6.out.ins hi)
  clear hg hi hn' hp
  have hp := s_put C D7 ⟨15, 8, q1, xz, 0, 0, []⟩ none 0 0 w9 g9.out.gs b7.out.2.2.2.2.1 (by obtain ⟨-, -, -, h4, -, h6, h7⟩ := b7.out; omega) (kinst_nil _ _ _ _ _ _ _ _) (no24n (show (15 : Int) < 24 by decide))
  go_wp2_with fail
  refine hp.mono ?_; rintro e w10 ⟨xc, D8, rfl, hg, hi, hn'⟩
  have fx8 := Hd.mk (show D8.nPh = 2 ∧ D8.cPh = [.int .i64 8, .slice (some ⟨p1, 0, none⟩) 2 2] ++ [.int .i64 wd, .slice (some ⟨p2, 0, none⟩) 2 2] by obtain ⟨-, h2, h3, -⟩ := hi.same; rw [h2, h3]; exact fx7.out)
  have s10 := Hd.mk hg
  have g10 := Hd.mk (g9.out.trans hg)
  have b8 := Hd.mk (b7.out.ins hi)
  clear hg hi hn' hp
  have hp := s_close C D8 ⟨3, xc, (D.nB : Int) + 2, (D.nB : Int) + 3⟩ w10 g10.out.gs (by obtain ⟨-, -, -, h4, -, h6, h7⟩ := b8.out; omega)
  go_wp2_with fail
  refine hp.mono ?_; rintro e w11 ⟨v', rfl, hg, hfr⟩
  obtain ⟨gp, cpp, arp, hvp, hbs, hap⟩ := Bs.phis (t := ⟨3, xc, (D.nB : Int) + 2, (D.nB : Int) + 3⟩) g10.out.gs hfr rfl hg.gs (n := 1) fx8.out.1
  have fx9 := Hd.mk (show (closed {D8 with tm := ⟨3, xc, (D.nB : Int) + 2, (D.nB : Int) + 3⟩} v').cB[(D.nB + 1) * 6]? = some (.slice (some ⟨gp, 0, none⟩) 2 cpp) by
    have hl := g10.out.gs.oB.1
    have hb9 : D8.nB = D.nB + 1 := b8.out.2.2.2.1
    rw [hb9] at hl
    show (D8.cB ++ _)[(D.nB + 1) * 6]? = _
    rw [← hl, List.getElem?_append_right (Nat.le_refl _), Nat.sub_self]
    exact congrArg some hvp)
  have hap1 := Hd.mk (hap 1 (.slice (some ⟨p1, 0, none⟩) 2 2) (by rw [fx8.out.2]; rfl))
  have hap3 := Hd.mk (hap 3 (.slice (some ⟨p2, 0, none⟩) 2 2) (by rw [fx8.out.2]; rfl))
  clear hap hvp
  obtain ⟨D9, hD⟩ : ∃ D' : GD, D' = closed {D8 with tm := ⟨3, xc, (D.nB : Int) + 2, (D.nB : Int) + 3⟩} v' := ⟨_, rfl⟩
  have b9 := Hd.mk (b8.out.cls ⟨3, xc, (D.nB : Int) + 2, (D.nB : Int) + 3⟩ v')
  rw [← hD] at hg b9 fx9 hbs
  have s11 := Hd.mk hg
  have g11 := Hd.mk (g10.out.trans hg)
  clear hg hp hD hfr
  have tp := Hd.mk hbs
  clear hbs
  have j11 := g11.out.gs.at 11
  have j12 := g11.out.gs.at 12
  simp [GD.cells] at j11 j12
  obtain ⟨As, cs, xs, es, ls, rs⟩ := bx_ri g11.out.gs.eI
  obtain ⟨At, ct, ys, et, lt, rt⟩ := bx_ri g11.out.gs.eW
  rw [es] at j11
  rw [et] at j12
  clear rs rt ls lt
  have hsn := Hd.mk b9.out.2.2.2.2.1.2.2
  have nx0 : Hd (D9.next ≤ D9.next) := ⟨Int.le_refl _⟩
  have hp := s_put C D9 ⟨21, 8, 0, 0, 0, 1, []⟩ none 0 0 w11 g11.out.gs b9.out.2.2.2.2.1 (by obtain ⟨-, -, -, h4, -, h6, h7⟩ := b9.out; omega) (kinst_nil _ _ _ _ _ _ _ _) (no24n (show (21 : Int) < 24 by decide))
  go_wp2_with fail
  refine hp.mono ?_; rintro e w12 ⟨xo, D10, rfl, hg, hi, hn'⟩
  have nx1 := Hd.mk (Int.le_trans nx0.out (hi.next.1))
  have fx10 := Hd.mk ((congrArg (fun l : List Value => l[(D.nB + 1) * 6]?) hi.same.2.2.2.2.2).trans fx9.out)
  have s12 := Hd.mk hg
  have g12 := Hd.mk (g11.out.trans hg)
  have b10 := Hd.mk (b9.out.ins hi)
  clear hg hi hn' hp
  have hp := s_put C D10 ⟨2, 8, q1, xo, 0, 0, []⟩ none 0 0 w12 g12.out.gs b10.out.2.2.2.2.1 (by obtain ⟨-, -, -, h4, -, h6, h7⟩ := b10.out; omega) (kinst_nil _ _ _ _ _ _ _ _) (no24n (show (2 : Int) < 24 by decide))
  go_wp2_with fail
  refine hp.mono ?_; rintro e w13 ⟨xl, D11, rfl, hg, hi, hn'⟩
  have nx2 := Hd.mk (Int.le_trans nx1.out (hi.next.1))
  have fx11 := Hd.mk ((congrArg (fun l : List Value => l[(D.nB + 1) * 6]?) hi.same.2.2.2.2.2).trans fx10.out)
  have s13 := Hd.mk hg
  have g13 := Hd.mk (g12.out.trans hg)
  have b11 := Hd.mk (b10.out.ins hi)
  clear hg hi hn' hp
  have j0 := g13.out.gs.at 0
  simp [GD.cells] at j0
  have hp := s_below C.lo C.gr 3 w13 g13.out.gs.rs (by omega)
  go_wp2_with fail
  refine hp.mono ?_; rintro e w14 ⟨v, rfl, ⟨q, rfl, q1', q2'⟩, hr, hg⟩
  have s14 := Hd.mk (g13.out.gs.rd hg hr)
  have g14 := Hd.mk (g13.out.trans s14.out)
  clear hr hg hp j0
  have hp := s_some C D11 q w14 g14.out.gs b11.out.2.2.2.2.1 (by obtain ⟨-, -, -, h4, -, h6, h7⟩ := b11.out; omega) (by omega)
  go_wp2_with fail
  refine hp.mono ?_; rintro e w15 ⟨D12, rfl, hg, hi, hn'⟩
  have nx3 := Hd.mk (Int.le_trans nx2.out (hi.next.1))
  have fx12 := Hd.mk ((congrArg (fun l : List Value => l[(D.nB + 1) * 6]?) hi.same.2.2.2.2.2).trans fx11.out)
  have s15 := Hd.mk hg
  have g15 := Hd.mk (g14.out.trans hg)
  have b12 := Hd.mk (b11.out.ins (hi.mono (show 5 * q ≤ 10 by omega)))
  clear hg hi hn' hp q1' q2'
  have hp := s_pick C D12 wd w15 g15.out.gs b12.out.2.2.2.2.1 (by obtain ⟨-, -, -, h4, -, h6, h7⟩ := b12.out; omega) hwd'.out
  go_wp2_with fail
  refine hp.mono ?_; rintro e w16 ⟨xy, D13, rfl, hg, hi, hn'⟩
  have nx4 := Hd.mk (Int.le_trans nx3.out (hi.next.1))
  have fx13 := Hd.mk ((congrArg (fun l : List Value => l[(D.nB + 1) * 6]?) hi.same.2.2.2.2.2).trans fx12.out)
  have s16 := Hd.mk hg
  have g16 := Hd.mk (g15.out.trans hg)
  have b13 := Hd.mk (b12.out.ins hi)
  clear hg hi hn' hp
  by_cases hy : xy = q2
  · subst hy
    have hyd : (xy == xy) = true := by simp
    have hp := s_put C D13 ⟨1, wd, xy, xa, 0, 0, []⟩ none 0 0 w16 g16.out.gs b13.out.2.2.2.2.1 (by obtain ⟨-, -, -, h4, -, h6, h7⟩ := b13.out; omega) (kinst_nil _ _ _ _ _ _ _ _) (no24n (show (1 : Int) < 24 by decide))
    go_wp2_with fail
    refine hp.mono ?_; rintro e w17 ⟨x9, D14, rfl, hg, hi, hn'⟩
    have nx5 := Hd.mk (Int.le_trans nx4.out (hi.next.1))
    have fx14 := Hd.mk ((congrArg (fun l : List Value => l[(D.nB + 1) * 6]?) hi.same.2.2.2.2.2).trans fx13.out)
    have s17 := Hd.mk hg
    have g17 := Hd.mk (g16.out.trans hg)
    have b14 := Hd.mk (b13.out.ins hi)
    clear hg hi hn' hp
    have hp := s_close C D14 ⟨2, 0, (D.nB : Int) + 1, 0⟩ w17 g17.out.gs (by obtain ⟨-, -, -, h4, -, h6, h7⟩ := b14.out; omega)
    go_wp2_with fail
    refine hp.mono ?_; rintro e w18 ⟨v', rfl, hg, hfr⟩
    have fx15 := Hd.mk (show (closed {D14 with tm := ⟨2, 0, (D.nB : Int) + 1, 0⟩} v').cB[(D.nB + 1) * 6]? = some (.slice (some ⟨gp, 0, none⟩) 2 cpp) by
      show (D14.cB ++ _)[(D.nB + 1) * 6]? = _
      rw [List.getElem?_append_left (List.getElem?_eq_some_iff.1 fx14.out).1]
      exact fx14.out)
    obtain ⟨D15, hD⟩ : ∃ D' : GD, D' = closed {D14 with tm := ⟨2, 0, (D.nB : Int) + 1, 0⟩} v' := ⟨_, rfl⟩
    have nx6 := Hd.mk (Int.le_trans nx5.out (show D14.next ≤ D15.next by rw [hD]; exact Int.le_refl _))
    have b15 := Hd.mk (b14.out.cls ⟨2, 0, (D.nB : Int) + 1, 0⟩ v')
    rw [← hD] at hg b15 fx15
    have s18 := Hd.mk hg
    have g18 := Hd.mk (g17.out.trans hg)
    clear hg hp hD hfr
    have e1 := t1.out.mv ((((((((((s8.out.trans s9.out).trans s10.out).trans s11.out).trans s12.out).trans s13.out).trans s14.out).trans s15.out).trans s16.out).trans s17.out).trans s18.out)
    have e2 := t2.out.mv (((((((((s9.out.trans s10.out).trans s11.out).trans s12.out).trans s13.out).trans s14.out).trans s15.out).trans s16.out).trans s17.out).trans s18.out)
    have ep := tp.out.mv ((((((s12.out.trans s13.out).trans s14.out).trans s15.out).trans s16.out).trans s17.out).trans s18.out)
    have j3 := g18.out.gs.at 3
    have j11 := g18.out.gs.at 11
    have j12 := g18.out.gs.at 12
    simp [GD.cells] at j3 j11 j12
    obtain ⟨Ab9, cb9, hvb9, -, -, -, hrow9⟩ := own_shape g18.out.gs.oB
    have hnb : D15.nB = D.nB + 3 := b15.out.2.2.2.1
    obtain ⟨b9, rfl, -, hrow9⟩ := hrow9 (by omega)
    rw [hvb9, hnb] at j3
    have r0 := hrow9 _ _ fx15.out
    have r1 := ((row_facts ep.heap).1 1).trans hap1.out
    have r3 := ((row_facts ep.heap).1 3).trans hap3.out
    have f1 := (row_facts e1.heap).2
    have f2 := (row_facts e2.heap).2
    have c1 := (row_facts e1.heap).1 1
    have c2 := (row_facts e2.heap).1 1
    have n1 : p1 ≠ C.gg := fun e => e1.ge (by rw [e]; exact .inr (.inl rfl))
    have n2 : p2 ≠ C.gg := fun e => e2.ge (by rw [e]; exact .inr (.inl rfl))
    have n3 : p1 ≠ b9 := fun e => e1.ge (by rw [e]; simp [GE, hvb9, Value.ownBlock])
    have n4 : p2 ≠ b9 := fun e => e2.ge (by rw [e]; simp [GE, hvb9, Value.ownBlock])
    have n5 : p1 ≠ gp := ne_of_cells e1.heap ep.heap (by decide)
    have n12 : p2 ≠ p1 := fun e => tne.out e.symm
    have n6 : p2 ≠ gp := ne_of_cells e2.heap ep.heap (by decide)
    have i0 : ((D.nB : Int) + 1) < ((D.nB : Int) + 3) := by omega
    have i1 : (0 : Int) ≤ (D.nB : Int) + 1 := by omega
    have i2 : D.nB + 1 < D.nB + 3 := by omega
    have u1 := Hd.mk e1
    have u2 := Hd.mk e2
    clear e1 e2 ep hrow9 hvb9
    have hch := ((((((s12.out.trans s13.out).trans s14.out).trans s15.out).trans s16.out).trans s17.out).trans s18.out)
    have hei := g11.out.gs.eI.go hch.fr hch.sub
    have hew := g11.out.gs.eW.go hch.fr hch.sub
    rw [es] at hei
    rw [et] at hew
    have h1 := g18.out.num xl hle1.out u1.out.ge u1.out.fl u1.out.heap (j := 1) (i := 0) rfl
    have hq2 : (w18.setCell ⟨p1, 1, none⟩ (.int .i64 xl)).heap[p2]? = _ := heap_off u2.out.heap n12
    have h2 := h1.num x9 hle2.out u2.out.ge u2.out.fl hq2 (j := 1) (i := 0) rfl
    have hei2 := (hei.num (fun _ _ => QI.num) u1.out.ge u1.out.heap (j := 1) (i := 0) (i' := xl) rfl).num (fun _ _ => QI.num) u2.out.ge hq2 (j := 1) (i := 0) (i' := x9) rfl
    have hew2 := (hew.num (fun _ _ => QI.num) u1.out.ge u1.out.heap (j := 1) (i := 0) (i' := xl) rfl).num (fun _ _ => QI.num) u2.out.ge hq2 (j := 1) (i := 0) (i' := x9) rfl
    have hu := h2.gs.upd D15.tm D15.ret D15.next (.slice As D9.nid cs) (.slice At D9.nid ct) D9.nid ((Fr.set _ C.gg 11 (.slice As D9.nid cs)).go (Fr.set _ C.gg 12 (.slice At D9.nid ct)) fun _ e => .inl e) ((heap_set (heap_set h2.gs.cell)).trans (by simp [GD.cells])) hei2 hew2 h2.gs.wR h2.gs.n0 h2.gs.n1 g11.out.gs.n4
    have hfin := Hd.mk (h2.trans hu)
    have fzg := g18.out.gs.fz
    have hlg := g18.out.gs.lt
    have l1 := (Array.getElem?_eq_some_iff.1 u1.out.heap).1
    have l2 := (Array.getElem?_eq_some_iff.1 u2.out.heap).1
    clear hch hei hew h1 h2 hq2 hei2 hew2 hu
    go_wp2
    go_end0
    exact ⟨_, rfl, hfin.out, (b15.out.upd (.slice As D9.nid cs) (.slice At D9.nid ct) D9.nid (Int.le_trans hsn.out nx6.out)).mono (by omega)⟩
  · have hyd := beqF hy
    have hp := s_close C D13 ⟨2, 0, (D.nB : Int) + 1, 0⟩ w16 g16.out.gs (by obtain ⟨-, -, -, h4, -, h6, h7⟩ := b13.out; omega)
    go_wp2_with fail
    refine hp.mono ?_; rintro e w17 ⟨v', rfl, hg, hfr⟩
    have fx14 := Hd.mk (show (closed {D13 with tm := ⟨2, 0, (D.nB : Int) + 1, 0⟩} v').cB[(D.nB + 1) * 6]? = some (.slice (some ⟨gp, 0, none⟩) 2 cpp) by
      show (D13.cB ++ _)[(D.nB + 1) * 6]? = _
      rw [List.getElem?_append_left (List.getElem?_eq_some_iff.1 fx13.out).1]
      exact fx13.out)
    obtain ⟨D14, hD⟩ : ∃ D' : GD, D' = closed {D13 with tm := ⟨2, 0, (D.nB : Int) + 1, 0⟩} v' := ⟨_, rfl⟩
    have nx5 := Hd.mk (Int.le_trans nx4.out (show D13.next ≤ D14.next by rw [hD]; exact Int.le_refl _))
    have b14 := Hd.mk (b13.out.cls ⟨2, 0, (D.nB : Int) + 1, 0⟩ v')
    rw [← hD] at hg b14 fx14
    have s17 := Hd.mk hg
    have g17 := Hd.mk (g16.out.trans hg)
    clear hg hp hD hfr
    have e1 := t1.out.mv (((((((((s8.out.trans s9.out).trans s10.out).trans s11.out).trans s12.out).trans s13.out).trans s14.out).trans s15.out).trans s16.out).trans s17.out)
    have e2 := t2.out.mv ((((((((s9.out.trans s10.out).trans s11.out).trans s12.out).trans s13.out).trans s14.out).trans s15.out).trans s16.out).trans s17.out)
    have ep := tp.out.mv (((((s12.out.trans s13.out).trans s14.out).trans s15.out).trans s16.out).trans s17.out)
    have j3 := g17.out.gs.at 3
    have j11 := g17.out.gs.at 11
    have j12 := g17.out.gs.at 12
    simp [GD.cells] at j3 j11 j12
    obtain ⟨Ab9, cb9, hvb9, -, -, -, hrow9⟩ := own_shape g17.out.gs.oB
    have hnb : D14.nB = D.nB + 3 := b14.out.2.2.2.1
    obtain ⟨b9, rfl, -, hrow9⟩ := hrow9 (by omega)
    rw [hvb9, hnb] at j3
    have r0 := hrow9 _ _ fx14.out
    have r1 := ((row_facts ep.heap).1 1).trans hap1.out
    have r3 := ((row_facts ep.heap).1 3).trans hap3.out
    have f1 := (row_facts e1.heap).2
    have f2 := (row_facts e2.heap).2
    have c1 := (row_facts e1.heap).1 1
    have c2 := (row_facts e2.heap).1 1
    have n1 : p1 ≠ C.gg := fun e => e1.ge (by rw [e]; exact .inr (.inl rfl))
    have n2 : p2 ≠ C.gg := fun e => e2.ge (by rw [e]; exact .inr (.inl rfl))
    have n3 : p1 ≠ b9 := fun e => e1.ge (by rw [e]; simp [GE, hvb9, Value.ownBlock])
    have n4 : p2 ≠ b9 := fun e => e2.ge (by rw [e]; simp [GE, hvb9, Value.ownBlock])
    have n5 : p1 ≠ gp := ne_of_cells e1.heap ep.heap (by decide)
    have n12 : p2 ≠ p1 := fun e => tne.out e.symm
    have n6 : p2 ≠ gp := ne_of_cells e2.heap ep.heap (by decide)
    have i0 : ((D.nB : Int) + 1) < ((D.nB : Int) + 3) := by omega
    have i1 : (0 : Int) ≤ (D.nB : Int) + 1 := by omega
    have i2 : D.nB + 1 < D.nB + 3 := by omega
    have u1 := Hd.mk e1
    have u2 := Hd.mk e2
    clear e1 e2 ep hrow9 hvb9
    have hch := (((((s12.out.trans s13.out).trans s14.out).trans s15.out).trans s16.out).trans s17.out)
    have hei := g11.out.gs.eI.go hch.fr hch.sub
    have hew := g11.out.gs.eW.go hch.fr hch.sub
    rw [es] at hei
    rw [et] at hew
    have h1 := g17.out.num xl hle1.out u1.out.ge u1.out.fl u1.out.heap (j := 1) (i := 0) rfl
    have hq2 : (w17.setCell ⟨p1, 1, none⟩ (.int .i64 xl)).heap[p2]? = _ := heap_off u2.out.heap n12
    have h2 := h1.num xy hle2.out u2.out.ge u2.out.fl hq2 (j := 1) (i := 0) rfl
    have hei2 := (hei.num (fun _ _ => QI.num) u1.out.ge u1.out.heap (j := 1) (i := 0) (i' := xl) rfl).num (fun _ _ => QI.num) u2.out.ge hq2 (j := 1) (i := 0) (i' := xy) rfl
    have hew2 := (hew.num (fun _ _ => QI.num) u1.out.ge u1.out.heap (j := 1) (i := 0) (i' := xl) rfl).num (fun _ _ => QI.num) u2.out.ge hq2 (j := 1) (i := 0) (i' := xy) rfl
    have hu := h2.gs.upd D14.tm D14.ret D14.next (.slice As D9.nid cs) (.slice At D9.nid ct) D9.nid ((Fr.set _ C.gg 11 (.slice As D9.nid cs)).go (Fr.set _ C.gg 12 (.slice At D9.nid ct)) fun _ e => .inl e) ((heap_set (heap_set h2.gs.cell)).trans (by simp [GD.cells])) hei2 hew2 h2.gs.wR h2.gs.n0 h2.gs.n1 g11.out.gs.n4
    have hfin := Hd.mk (h2.trans hu)
    have fzg := g17.out.gs.fz
    have hlg := g17.out.gs.lt
    have l1 := (Array.getElem?_eq_some_iff.1 u1.out.heap).1
    have l2 := (Array.getElem?_eq_some_iff.1 u2.out.heap).1
    clear hch hei hew h1 h2 hq2 hei2 hew2 hu
    go_wp2
    go_end0
    exact ⟨_, rfl, hfin.out, (b14.out.upd (.slice As D9.nid cs) (.slice At D9.nid ct) D9.nid (Int.le_trans hsn.out nx5.out)).mono (by omega)⟩
end Go.Proofs.YtkcgejbnhpccdaaGreat
