/- Contract of the reference's step at more of its operations. Condition: the state lies as MX says, and the program is right. Contract of the reference's step at more of its operations. Condition: the state lies as MX says, and the program is right. -/
import Derived.Test.YtdnbiohohbnhgaaJ10
set_option linter.unusedSimpArgs false
set_option linter.unusedVariables false
namespace Go.Proofs.Ytdnbiohohbnhgaa
open Go.RowKit
set_option maxRecDepth 20000 in
set_option maxHeartbeats 4000000 in
theorem s_step23b (lo g gr gm : Nat) (r n : Int) (v1 v2 v3 : Value) (s : MS) (pc : Int) (W : World) (x : XMIns) (h : MX lo g gr gm r v1 v2 v3 s pc 0 0 false W) (hs : MOk r s) (hr : r ≤ 130) (hx : minsOk r n x = true) (hlo : lo ≤ W.heap.size) (hpc : 0 ≤ pc ∧ pc ≤ 600) (ho : x.op = 23 ∧ ¬ 32 ≤ rg s x.a) :
    Calls Try.prog 38 #[.pointer (some ⟨g, 0, none⟩), minsV x] W (StepD lo g gr gm r v1 v2 v3 (stepX x s pc) W) := by
  obtain ⟨rd, ra, rb, rc, -, -⟩ := mins_regs hx
  obtain ⟨W0, hW0⟩ : ∃ W0 : World, W0 = W.alloc (.cells #[.int .i64 x.op, .int .i64 x.w, .int .i64 x.d, .int .i64 x.a, .int .i64 x.b, .int .i64 x.c, .int .i64 x.imm] 71) := ⟨_, rfl⟩
  have hb0 : Below W.heap.size W W0 := by rw [hW0]; exact (Below.refl _ _).al (Nat.le_refl _) _
  have hM := h.mv hb0
  have hxc : Xc W0 W.heap.size x := by
    rw [hW0]
    refine ⟨?_, ?_, ?_, ?_, ?_, ?_, ?_⟩ <;> simp
  have hrga := (hM.reg hs x.a ra).1
  have hrng := rg_rng hs x.a
  have hl := hM.los
  have hgW := h.los.2.2.2.2.2.2.1
  obtain ⟨Ao, co, cm, hh, -⟩ := id hM
  obtain ⟨cg, fg⟩ := row_facts hh
  have k4 := cg 4
  have k5 := cg 5
  have k6 := cg 6
  have k7 := cg 7
  have k8 := cg 8
  have k9 := cg 9
  have k10 := cg 10
  simp at k4 k5 k6 k7 k8 k9 k10
  have hM' := Hd.mk hM
  have hb0' := Hd.mk (hb0.mono hlo)
  have hW0' := Hd.mk hW0
  obtain ⟨op, wd, d, a, b, c, imm⟩ := x
  simp only at rd ra rb rc hrga hrng ho
  obtain ⟨x0, x1, x2, x3, x4, x5, x6⟩ := hxc
  generalize hV : stepX ⟨op, wd, d, a, b, c, imm⟩ s pc = D
  have hV' := Hd.mk hV
  clear hV hM h hb0 hW0 hh cg
  unfold stepX at hV'
  unfold minsV
  simp only at *
  have y2 : a < (r.toNat : Int) := by omega
  have y3 : 0 ≤ a := ra.1
  have y4 : a < max r 0 := by omega
  generalize hga0 : rg s a = ga at *
  have hga := Hd.mk hga0
  clear hga0
  have hi1 : inR op 1 17 = bin op := rfl
  have hi2 : inR op 18 20 = cst op := rfl
  have hin := fun n lo hi W => s_l1In n lo hi W
  obtain ⟨rfl, ho⟩ := ho
  rw [if_neg (by intro h; rcases h with h | h; exact absurd h (by decide); exact absurd h.1 (by decide)), if_neg (by decide), if_neg (by decide), if_neg (by decide)] at hV'

  go_enter Try.func38, Try.ntmps38
  go_wp2
  rw [← hW0'.out]
  go_quiet (fail)
  go_wp2_with fail
  have hM1 := Hd.mk ((hM'.out.drew nq).setF (o := 7) (u := .int .i64 (pc + 1)) (pc' := pc + 1) (value' := 0) (code' := 0) (done' := false) (fun _ _ _ _ _ _ _ => rfl))
  have hb1 := Hd.mk ((drewN_below hb0'.out nq).setCell (p := ⟨g, 7, none⟩) hl.1 (.int .i64 (pc + 1)))
  have hbx : Below (W.heap.size + 1) W0 ((W0.drewN nq).setCell ⟨g, 7, none⟩ (.int .i64 (pc + 1))) → True := fun _ => trivial
  have hne : W.heap.size ≠ g := by have := hgW; omega
  have w0 : ((W0.drewN nq).setCell ⟨g, 7, none⟩ (.int .i64 (pc + 1))).cell? ⟨W.heap.size, 0, none⟩ = some (.int .i64 23) := (cell_far _ _ _ _ _ _ hne).trans x0
  have w1 : ((W0.drewN nq).setCell ⟨g, 7, none⟩ (.int .i64 (pc + 1))).cell? ⟨W.heap.size, 1, none⟩ = some (.int .i64 wd) := (cell_far _ _ _ _ _ _ hne).trans x1
  have w2 : ((W0.drewN nq).setCell ⟨g, 7, none⟩ (.int .i64 (pc + 1))).cell? ⟨W.heap.size, 2, none⟩ = some (.int .i64 d) := (cell_far _ _ _ _ _ _ hne).trans x2
  have w3 : ((W0.drewN nq).setCell ⟨g, 7, none⟩ (.int .i64 (pc + 1))).cell? ⟨W.heap.size, 3, none⟩ = some (.int .i64 a) := (cell_far _ _ _ _ _ _ hne).trans x3
  have w4 : ((W0.drewN nq).setCell ⟨g, 7, none⟩ (.int .i64 (pc + 1))).cell? ⟨W.heap.size, 4, none⟩ = some (.int .i64 b) := (cell_far _ _ _ _ _ _ hne).trans x4
  have w5 : ((W0.drewN nq).setCell ⟨g, 7, none⟩ (.int .i64 (pc + 1))).cell? ⟨W.heap.size, 5, none⟩ = some (.int .i64 c) := (cell_far _ _ _ _ _ _ hne).trans x5
  have w6 : ((W0.drewN nq).setCell ⟨g, 7, none⟩ (.int .i64 (pc + 1))).cell? ⟨W.heap.size, 6, none⟩ = some (.int .i64 imm) := (cell_far _ _ _ _ _ _ hne).trans x6
  clear hbx x0 x1 x2 x3 x4 x5 x6 k4 k5 k6 k7 k8 k9 k10 fg hM' hb0' hW0' hrga hne
  generalize (W0.drewN nq).setCell ⟨g, 7, none⟩ (.int .i64 (pc + 1)) = W1 at *
  obtain ⟨Ao, co, cm, hh, -⟩ := id hM1.out
  obtain ⟨cg, fg⟩ := row_facts hh
  have k4 := cg 4
  have k5 := cg 5
  have k6 := cg 6
  have k7 := cg 7
  have k8 := cg 8
  have k9 := cg 9
  have k10 := cg 10
  simp at k4 k5 k6 k7 k8 k9 k10
  have hl1 := hM1.out.los
  clear cg hh
  have hml := hs.mem
  have y5 : 0 ≤ ga := hrng.1
  have y6 : ga < 32 := by omega
  have hdo : doM ⟨23, wd, d, a, b, c, imm⟩ s = (⟨s.regs.set d.toNat (s.mem.getD ga.toNat 0), s.mem, s.out⟩, 0) := by
    unfold doM valM
    simp [bin, cst, inR, hga.out, show ¬ 32 ≤ ga by omega]
  rw [hdo, if_pos rfl, show s.mem.getD ga.toNat 0 = s.mem[ga.toNat]'(by omega) by rw [List.getD_eq_getElem?_getD, List.getElem?_eq_getElem (by omega)]; rfl] at hV'
  clear hdo
  have t2 : decide (32 ≤ ga) = false := by simpa using ho
  have hbyt := hs.byt ga.toNat (by omega)
  obtain ⟨_, _, _, -, -, hby, -⟩ := id hM1.out
  obtain ⟨hby1, hby2⟩ := hby.cell ga.toNat (by omega)
  clear hby
  have hrg := (hM1.out.reg hs d rd)
  have zd1 : d < (r.toNat : Int) := by omega
  have zd2 : 0 ≤ d := rd.1
  have zd3 : d < max r 0 := by omega
  obtain ⟨rg0, rg1⟩ := hrg
  have hst := Hd.mk (hM1.out.setReg d.toNat (s.mem[ga.toNat]'(by omega)))
  generalize s.mem[ga.toNat]'(by omega) = bv at *
  go_wp2_with (first | (go_at_call 36; refine (hin _ _ _ _).mono ?_; rintro e wq ⟨rfl, rfl⟩))
  go_still_tail 15, (by kernel_rfl)
  change wpList _ _ _ _ _ W1.drew
  go_wp2
  go_end0
  exact ⟨rfl, by rw [← hV'.out]; exact hst.out, (hb1.out.setCell (p := ⟨gr, d.toNat, none⟩) hl1.2.2.1 _).drew⟩
end Go.Proofs.Ytdnbiohohbnhgaa
set_option linter.unusedSimpArgs false
set_option linter.unusedVariables false
namespace Go.Proofs.Ytdnbiohohbnhgaa
open Go.RowKit
set_option maxRecDepth 20000 in
set_option maxHeartbeats 4000000 in
theorem s_step24b (lo g gr gm : Nat) (r n : Int) (v1 v2 v3 : Value) (s : MS) (pc : Int) (W : World) (x : XMIns) (h : MX lo g gr gm r v1 v2 v3 s pc 0 0 false W) (hs : MOk r s) (hr : r ≤ 130) (hx : minsOk r n x = true) (hlo : lo ≤ W.heap.size) (hpc : 0 ≤ pc ∧ pc ≤ 600) (ho : x.op = 24 ∧ ¬ 32 ≤ rg s x.a) :
    Calls Try.prog 38 #[.pointer (some ⟨g, 0, none⟩), minsV x] W (StepD lo g gr gm r v1 v2 v3 (stepX x s pc) W) := by
  obtain ⟨rd, ra, rb, rc, -, -⟩ := mins_regs hx
  obtain ⟨W0, hW0⟩ : ∃ W0 : World, W0 = W.alloc (.cells #[.int .i64 x.op, .int .i64 x.w, .int .i64 x.d, .int .i64 x.a, .int .i64 x.b, .int .i64 x.c, .int .i64 x.imm] 71) := ⟨_, rfl⟩
  have hb0 : Below W.heap.size W W0 := by rw [hW0]; exact (Below.refl _ _).al (Nat.le_refl _) _
  have hM := h.mv hb0
  have hxc : Xc W0 W.heap.size x := by
    rw [hW0]
    refine ⟨?_, ?_, ?_, ?_, ?_, ?_, ?_⟩ <;> simp
  have hrga := (hM.reg hs x.a ra).1
  have hrng := rg_rng hs x.a
  have hl := hM.los
  have hgW := h.los.2.2.2.2.2.2.1
  obtain ⟨Ao, co, cm, hh, -⟩ := id hM
  obtain ⟨cg, fg⟩ := row_facts hh
  have k4 := cg 4
  have k5 := cg 5
  have k6 := cg 6
  have k7 := cg 7
  have k8 := cg 8
  have k9 := cg 9
  have k10 := cg 10
  simp at k4 k5 k6 k7 k8 k9 k10
  have hM' := Hd.mk hM
  have hb0' := Hd.mk (hb0.mono hlo)
  have hW0' := Hd.mk hW0
  obtain ⟨op, wd, d, a, b, c, imm⟩ := x
  simp only at rd ra rb rc hrga hrng ho
  obtain ⟨x0, x1, x2, x3, x4, x5, x6⟩ := hxc
  generalize hV : stepX ⟨op, wd, d, a, b, c, imm⟩ s pc = D
  have hV' := Hd.mk hV
  clear hV hM h hb0 hW0 hh cg
  unfold stepX at hV'
  unfold minsV
  simp only at *
  have y2 : a < (r.toNat : Int) := by omega
  have y3 : 0 ≤ a := ra.1
  have y4 : a < max r 0 := by omega
  generalize hga0 : rg s a = ga at *
  have hga := Hd.mk hga0
  clear hga0
  have hi1 : inR op 1 17 = bin op := rfl
  have hi2 : inR op 18 20 = cst op := rfl
  have hin := fun n lo hi W => s_l1In n lo hi W
  obtain ⟨rfl, ho⟩ := ho
  rw [if_neg (by intro h; rcases h with h | h; exact absurd h (by decide); exact absurd h.1 (by decide)), if_neg (by decide), if_neg (by decide), if_neg (by decide)] at hV'

  go_enter Try.func38, Try.ntmps38
  go_wp2
  rw [← hW0'.out]
  go_quiet (fail)
  go_wp2_with fail
  have hM1 := Hd.mk ((hM'.out.drew nq).setF (o := 7) (u := .int .i64 (pc + 1)) (pc' := pc + 1) (value' := 0) (code' := 0) (done' := false) (fun _ _ _ _ _ _ _ => rfl))
  have hb1 := Hd.mk ((drewN_below hb0'.out nq).setCell (p := ⟨g, 7, none⟩) hl.1 (.int .i64 (pc + 1)))
  have hbx : Below (W.heap.size + 1) W0 ((W0.drewN nq).setCell ⟨g, 7, none⟩ (.int .i64 (pc + 1))) → True := fun _ => trivial
  have hne : W.heap.size ≠ g := by have := hgW; omega
  have w0 : ((W0.drewN nq).setCell ⟨g, 7, none⟩ (.int .i64 (pc + 1))).cell? ⟨W.heap.size, 0, none⟩ = some (.int .i64 24) := (cell_far _ _ _ _ _ _ hne).trans x0
  have w1 : ((W0.drewN nq).setCell ⟨g, 7, none⟩ (.int .i64 (pc + 1))).cell? ⟨W.heap.size, 1, none⟩ = some (.int .i64 wd) := (cell_far _ _ _ _ _ _ hne).trans x1
  have w2 : ((W0.drewN nq).setCell ⟨g, 7, none⟩ (.int .i64 (pc + 1))).cell? ⟨W.heap.size, 2, none⟩ = some (.int .i64 d) := (cell_far _ _ _ _ _ _ hne).trans x2
  have w3 : ((W0.drewN nq).setCell ⟨g, 7, none⟩ (.int .i64 (pc + 1))).cell? ⟨W.heap.size, 3, none⟩ = some (.int .i64 a) := (cell_far _ _ _ _ _ _ hne).trans x3
  have w4 : ((W0.drewN nq).setCell ⟨g, 7, none⟩ (.int .i64 (pc + 1))).cell? ⟨W.heap.size, 4, none⟩ = some (.int .i64 b) := (cell_far _ _ _ _ _ _ hne).trans x4
  have w5 : ((W0.drewN nq).setCell ⟨g, 7, none⟩ (.int .i64 (pc + 1))).cell? ⟨W.heap.size, 5, none⟩ = some (.int .i64 c) := (cell_far _ _ _ _ _ _ hne).trans x5
  have w6 : ((W0.drewN nq).setCell ⟨g, 7, none⟩ (.int .i64 (pc + 1))).cell? ⟨W.heap.size, 6, none⟩ = some (.int .i64 imm) := (cell_far _ _ _ _ _ _ hne).trans x6
  clear hbx x0 x1 x2 x3 x4 x5 x6 k4 k5 k6 k7 k8 k9 k10 fg hM' hb0' hW0' hrga hne
  generalize (W0.drewN nq).setCell ⟨g, 7, none⟩ (.int .i64 (pc + 1)) = W1 at *
  obtain ⟨Ao, co, cm, hh, -⟩ := id hM1.out
  obtain ⟨cg, fg⟩ := row_facts hh
  have k4 := cg 4
  have k5 := cg 5
  have k6 := cg 6
  have k7 := cg 7
  have k8 := cg 8
  have k9 := cg 9
  have k10 := cg 10
  simp at k4 k5 k6 k7 k8 k9 k10
  have hl1 := hM1.out.los
  clear cg hh
  have hml := hs.mem
  have y5 : 0 ≤ ga := hrng.1
  have y6 : ga < 32 := by omega
  have hdo : doM ⟨24, wd, d, a, b, c, imm⟩ s = (⟨s.regs, s.mem.set ga.toNat (rg s b % 256), s.out⟩, 0) := by
    unfold doM valM
    simp [hga.out, ho]
  rw [hdo, if_pos rfl] at hV'
  clear hdo
  have t2 : decide (32 ≤ ga) = false := by simpa using ho
  have rb0 := (hM1.out.reg hs b rb).1
  have zb1 : b < (r.toNat : Int) := by omega
  have zb2 : 0 ≤ b := rb.1
  have zb3 : b < max r 0 := by omega
  have hst := Hd.mk (hM1.out.setMem ga.toNat (rg s b % 256))
  generalize hgb : rg s b = gb at *
  obtain ⟨_, _, _, -, -, hby, -⟩ := id hM1.out
  obtain ⟨hby1, hby2⟩ := hby.cell ga.toNat (by omega)
  clear hby
  generalize s.mem[ga.toNat]'(by omega) = bv at *
  go_wp2_with (first | (go_at_call 36; refine (hin _ _ _ _).mono ?_; rintro e wq ⟨rfl, rfl⟩))
  go_still_tail 15, (by kernel_rfl)
  change wpList _ _ _ _ _ W1.drew
  go_wp2
  go_end0
  exact ⟨rfl, by rw [← hV'.out]; exact hst.out, (hb1.out.setCell (p := ⟨gm, ga.toNat, none⟩) hl1.2.1 _).drew⟩
end Go.Proofs.Ytdnbiohohbnhgaa
