/- Contract of the reference's step at more of its operations. Condition: the state lies as MX says, and the program is right. Contract of the reference's whole step. Condition: the state lies as MX says, and the program is right. What a step of a right program keeps true. Plain Lean. -/
import Derived.Test.YtdnbiohohbnhgaaJ10
import Derived.Test.YtdnbiohohbnhgaaJ11
import Derived.Test.YtdnbiohohbnhgaaJ12
import Derived.Test.YtdnbiohohbnhgaaJ13
import Derived.Test.YtdnbiohohbnhgaaJ14
set_option linter.unusedSimpArgs false
set_option linter.unusedVariables false
namespace Go.Proofs.Ytdnbiohohbnhgaa
open Go.RowKit
theorem MX.setOut {lo g gr gm n lo2 : Nat} {r : Int} {v1 v2 v3 v' : Value} {s : MS} {pc value code : Int} {done : Bool} {W W' : World} {xs : List Int} (h : MX lo g gr gm r v1 v2 v3 s pc value code done W) (ho : ∃ Ao co, (∃ lo', W.ownsRow lo' 2 1 (.slice Ao s.out.length co) s.out.length (s.out.map (Value.int .i64)) ∧ g < lo' ∧ gm < lo' ∧ gr < lo' ∧ lo' = lo2) ∧ W.grownBy W' (Value.slice Ao s.out.length co).ownBlock) (hl : lo2 ≤ W.heap.size)
    (h' : W'.ownsRow lo2 2 1 v' n (xs.map (Value.int .i64))) (hn : n = xs.length) : MX lo g gr gm r v1 v2 v3 ⟨s.regs, s.mem, xs⟩ pc value code done (W'.setCell ⟨g, 6, none⟩ v') := by
  subst hn
  obtain ⟨Ao', co', ⟨lo', ho1, j1, j2, j3, rfl⟩, hgb⟩ := ho
  obtain ⟨Ao, co, cm, h1, h2, h3, ⟨-, -, -, -, -, -⟩, h6, h7, h8, h9, h10, h11⟩ := h
  have hk := own_block_ge ho1
  have old : ∀ b, b < lo' → b < W.heap.size → W'.heap[b]? = W.heap[b]? := fun b hb hw => hgb.block b hw (fun e => by
    have := hk b (by first | exact e | exact e.symm)
    omega)
  obtain ⟨A2, c2, rfl, -, -⟩ := own_shape h'
  refine ⟨A2, c2, cm, ?_, ?_, ?_, ⟨lo', own_far h' j1, j1, j2, j3, by rw [setCell_size]; exact Nat.le_trans hl hgb.size⟩, h6, h7, h8, h9, h10, h11⟩
  · have := heap_set (j := 6) (u := .slice A2 xs.length c2) ((old g j1 (by omega)).trans h1)
    simpa using this
  · refine own_at ?_ (fun e => h9 e.symm)
    refine ⟨h2.1, ?_⟩
    rcases h2.2 with ⟨e, _⟩ | ⟨g', cap, cur, hv, hl', hx, h''⟩
    · cases e
    · cases hv
      exact .inr ⟨gr, _, cur, rfl, hl', (old gr j3 (by omega)).trans hx, h''⟩
  · exact (h3.mv (old gm j2 (by omega))).mv (Below.heap_setCell _ _ _ _ (fun e => h8 e.symm))
set_option maxRecDepth 20000 in
set_option maxHeartbeats 4000000 in
theorem s_step25b (lo g gr gm : Nat) (r n : Int) (v1 v2 v3 : Value) (s : MS) (pc : Int) (W : World) (x : XMIns) (h : MX lo g gr gm r v1 v2 v3 s pc 0 0 false W) (hs : MOk r s) (hr : r ≤ 130) (hx : minsOk r n x = true) (hlo : lo ≤ W.heap.size) (hpc : 0 ≤ pc ∧ pc ≤ 600) (ho : x.op = 25 ∧ ¬ s.out.length = 30) :
    Calls Try.prog 38 #[.pointer (some ⟨g, 0, none⟩), minsV x] W (StepD lo g gr gm r v1 v2 v3 (stepX x s pc) W) := by
  obtain ⟨rd, ra, rb, rc, -, -⟩ := mins_regs hx
  obtain ⟨W0, hW0⟩ : ∃ W0 : World, W0 = W.alloc (.cells #[.int .i64 x.op, .int .i64 x.w, .int .i64 x.d, .int .i64 x.a, .int .i64 x.b, .int .i64 x.c, .int .i64 x.imm] 71) := ⟨_, rfl⟩
  have hb0 : Below W.heap.size W W0 := by rw [hW0]; exact (Below.refl _ _).al (Nat.le_refl _) _
  have hM := h.mv hb0
  have hxc : Xc W0 W.heap.size x := by
    rw [hW0]
    refine ⟨?_, ?_, ?_, ?_, ?_, ?_, ?_⟩ <;> simp
  have hrga := (hM.reg hs x.a ra).1
  have hrng := rg_rng hs x.a
  have hl := hM.los
  have hgW := h.los.2.2.2.2.2.2.1
  obtain ⟨Ao, co, cm, hh, -⟩ := id hM
  obtain ⟨cg, fg⟩ := row_facts hh
  have k4 := cg 4
  have k5 := cg 5
  have k6 := cg 6
  have k7 := cg 7
  have k8 := cg 8
  have k9 := cg 9
  have k10 := cg 10
  simp at k4 k5 k6 k7 k8 k9 k10
  have hM' := Hd.mk hM
  have hb0' := Hd.mk (hb0.mono hlo)
  have hW0' := Hd.mk hW0
  obtain ⟨op, wd, d, a, b, c, imm⟩ := x
  simp only at rd ra rb rc hrga hrng ho
  obtain ⟨x0, x1, x2, x3, x4, x5, x6⟩ := hxc
  generalize hV : stepX ⟨op, wd, d, a, b, c, imm⟩ s pc = D
  have hV' := Hd.mk hV
  clear hV hM h hb0 hW0 hh cg
  unfold stepX at hV'
  unfold minsV
  simp only at *
  have y2 : a < (r.toNat : Int) := by omega
  have y3 : 0 ≤ a := ra.1
  have y4 : a < max r 0 := by omega
  generalize hga0 : rg s a = ga at *
  have hga := Hd.mk hga0
  clear hga0
  have hi1 : inR op 1 17 = bin op := rfl
  have hi2 : inR op 18 20 = cst op := rfl
  have hin := fun n lo hi W => s_l1In n lo hi W
  obtain ⟨rfl, ho⟩ := ho
  rw [if_neg (by intro h; rcases h with h | h; exact absurd h (by decide); exact absurd h.1 (by decide)), if_neg (by decide), if_neg (by decide), if_neg (by decide)] at hV'

  go_enter Try.func38, Try.ntmps38
  go_wp2
  rw [← hW0'.out]
  go_quiet (fail)
  go_wp2_with fail
  have hM1 := Hd.mk ((hM'.out.drew nq).setF (o := 7) (u := .int .i64 (pc + 1)) (pc' := pc + 1) (value' := 0) (code' := 0) (done' := false) (fun _ _ _ _ _ _ _ => rfl))
  have hb1 := Hd.mk ((drewN_below hb0'.out nq).setCell (p := ⟨g, 7, none⟩) hl.1 (.int .i64 (pc + 1)))
  have hbx : Below (W.heap.size + 1) W0 ((W0.drewN nq).setCell ⟨g, 7, none⟩ (.int .i64 (pc + 1))) → True := fun _ => trivial
  have hne : W.heap.size ≠ g := by have := hgW; omega
  have w0 : ((W0.drewN nq).setCell ⟨g, 7, none⟩ (.int .i64 (pc + 1))).cell? ⟨W.heap.size, 0, none⟩ = some (.int .i64 25) := (cell_far _ _ _ _ _ _ hne).trans x0
  have w1 : ((W0.drewN nq).setCell ⟨g, 7, none⟩ (.int .i64 (pc + 1))).cell? ⟨W.heap.size, 1, none⟩ = some (.int .i64 wd) := (cell_far _ _ _ _ _ _ hne).trans x1
  have w2 : ((W0.drewN nq).setCell ⟨g, 7, none⟩ (.int .i64 (pc + 1))).cell? ⟨W.heap.size, 2, none⟩ = some (.int .i64 d) := (cell_far _ _ _ _ _ _ hne).trans x2
  have w3 : ((W0.drewN nq).setCell ⟨g, 7, none⟩ (.int .i64 (pc + 1))).cell? ⟨W.heap.size, 3, none⟩ = some (.int .i64 a) := (cell_far _ _ _ _ _ _ hne).trans x3
  have w4 : ((W0.drewN nq).setCell ⟨g, 7, none⟩ (.int .i64 (pc + 1))).cell? ⟨W.heap.size, 4, none⟩ = some (.int .i64 b) := (cell_far _ _ _ _ _ _ hne).trans x4
  have w5 : ((W0.drewN nq).setCell ⟨g, 7, none⟩ (.int .i64 (pc + 1))).cell? ⟨W.heap.size, 5, none⟩ = some (.int .i64 c) := (cell_far _ _ _ _ _ _ hne).trans x5
  have w6 : ((W0.drewN nq).setCell ⟨g, 7, none⟩ (.int .i64 (pc + 1))).cell? ⟨W.heap.size, 6, none⟩ = some (.int .i64 imm) := (cell_far _ _ _ _ _ _ hne).trans x6
  clear hbx x0 x1 x2 x3 x4 x5 x6 k4 k5 k6 k7 k8 k9 k10 fg hM' hb0' hW0' hrga hne
  generalize (W0.drewN nq).setCell ⟨g, 7, none⟩ (.int .i64 (pc + 1)) = W1 at *
  obtain ⟨Ao, co, cm, hh, -⟩ := id hM1.out
  obtain ⟨cg, fg⟩ := row_facts hh
  have k4 := cg 4
  have k5 := cg 5
  have k6 := cg 6
  have k7 := cg 7
  have k8 := cg 8
  have k9 := cg 9
  have k10 := cg 10
  simp at k4 k5 k6 k7 k8 k9 k10
  have hl1 := hM1.out.los
  clear cg hh
  have hdo : doM ⟨25, wd, d, a, b, c, imm⟩ s = (⟨s.regs, s.mem, s.out ++ [ga]⟩, 0) := by
    unfold doM
    simp [ho, hga.out]
  rw [hdo, if_pos rfl] at hV'
  clear hdo
  have d3 : ((s.out.length : Int) == 30) = false := by simp; omega
  have hz1 := hb1.out.size
  have hol := hs.out
  clear Ao co cm k4 k5 k6 k7 k8 k9 k10 fg
  obtain ⟨Ao, co, cm, hh1, -, -, ⟨lo2, hown, i1, i2, i3, i4⟩, -⟩ := id hM1.out
  obtain ⟨kc, fg⟩ := row_facts hh1
  have k6 := kc 6
  simp at k6
  have hown' := Hd.mk hown
  have hh1' := Hd.mk hh1
  clear kc hown hh1
  have hal := Hd.mk fun (o : Obj) => (Below.refl W1.heap.size W1).al (Nat.le_refl _) o
  go_wp2_with (first | (go_at_call 36; refine (hin _ _ _ _).mono ?_; rintro e wq ⟨rfl, rfl⟩) | (
      at_builtin
      refine app_I rfl _ _ rfl lo2 _ s.out [ga] rfl (own_mv (show W1.ownsRow lo2 _ _ _ _ _ from hown'.out) (hal.out _)) _ 1 1 rfl (rd_one _ _) (by omega) (by simp; omega) ?_
      intro v' w4 ho4 hg4
      have ho1 := own_mv (show W1.ownsRow lo2 _ _ _ _ _ from hown'.out) (hal.out (.cells #[.int .i64 ga] 2))
      have hM2 := MX.mv (W := W1) (show MX lo g gr gm r v1 v2 v3 s (pc + 1) 0 0 false W1 from hM1.out) (hal.out (.cells #[.int .i64 ga] 2))
      have hgW4 : w4.heap[g]? = some (.cells #[.int .i64 r, v1, v2, v3, .slice (some ⟨gr, 0, none⟩) r.toNat r.toNat, .slice (some ⟨gm, 0, none⟩) 32 cm, .slice Ao s.out.length co, .int .i64 (pc + 1), .int .i64 0, .int .i64 0, .bool false] 67 (0, 0)) := by
        refine (hg4.block g (by simp; omega) (fun e => ?_)).trans (((hal.out (.cells #[.int .i64 ga] 2)).block g (by omega)).trans hh1'.out)
        have := own_block_ge ho1 g (by first | exact e | exact e.symm)
        omega
      obtain ⟨cg, fg⟩ := row_facts hgW4
      have c6 := cg 6
      have f6 := fg 6
      simp at c6
      have hb4 : Below lo W w4 := (hb1.out : Below lo W W1).al (by show lo ≤ W1.heap.size; omega) (.cells #[.int .i64 ga] 2) |>.grown hg4 (by simp; omega) (fun k hk => by have := own_block_ge ho1 k hk; omega)
      have hst := MX.setOut (xs := s.out ++ [ga]) hM2 ⟨Ao, co, ⟨lo2, ho1, i1, i2, i3, rfl⟩, hg4⟩ (by simp; omega) (by simpa using ho4) rfl
      have hst' := Hd.mk hst
      have hb4' := Hd.mk hb4
      obtain ⟨A2, c2, rfl, -, -⟩ := own_shape ho4
      clear hst hb4 hM2 ho1 hg4 ho4 hgW4 cg fg))
  go_end0
  exact ⟨rfl, by have h9 := hst'.out; rw [show (s.out ++ [ga]).length = s.out.length + 1 by simp] at h9; rw [← hV'.out]; exact h9, by first | exact (hb4'.out.setCell (p := ⟨g, 6, none⟩) hl1.1 _).drew | exact hb4'.out.setCell (p := ⟨g, 6, none⟩) hl1.1 _⟩
end Go.Proofs.Ytdnbiohohbnhgaa
set_option linter.unusedSimpArgs false
set_option linter.unusedVariables false
namespace Go.Proofs.Ytdnbiohohbnhgaa
open Go.RowKit
theorem op_cases (op : Int) (h : (usedOf op).isSome = true) : bin op = true ∨ cst op = true ∨ op = 21 ∨ op = 22 ∨ op = 23 ∨ op = 24 ∨ op = 25 ∨ op = 31 ∨ op = 32 ∨ op = 33 ∨ op = 34 ∨ op = 35 := by
  unfold usedOf at h
  by_cases h1 : bin op = true
  · exact .inl h1
  rw [if_neg h1] at h
  by_cases h2 : cst op = true
  · exact .inr (.inl h2)
  rw [if_neg h2] at h
  refine .inr (.inr ?_)
  repeat' split at h
  all_goals first | omega | cases h
theorem s_step (lo g gr gm : Nat) (r n : Int) (v1 v2 v3 : Value) (s : MS) (pc : Int) (W : World) (x : XMIns) (h : MX lo g gr gm r v1 v2 v3 s pc 0 0 false W) (hs : MOk r s) (hr : r ≤ 130) (hx : minsOk r n x = true) (hlo : lo ≤ W.heap.size) (hpc : 0 ≤ pc ∧ pc ≤ 600) :
    Calls Try.prog 38 #[.pointer (some ⟨g, 0, none⟩), minsV x] W (StepD lo g gr gm r v1 v2 v3 (stepX x s pc) W) := by
  obtain ⟨-, -, -, -, -, hu⟩ := mins_regs hx
  rcases op_cases x.op hu with o | o | o | o | o | o | o | o | o | o | o | o
  · exact s_stepBin lo g gr gm r n v1 v2 v3 s pc W x h hs hr hx hlo hpc o
  · exact s_stepCast lo g gr gm r n v1 v2 v3 s pc W x h hs hr hx hlo hpc o
  · exact s_step21 lo g gr gm r n v1 v2 v3 s pc W x h hs hr hx hlo hpc o
  · by_cases e : rg s x.a % 2 = 1
    · exact s_step22a lo g gr gm r n v1 v2 v3 s pc W x h hs hr hx hlo hpc ⟨o, e⟩
    · exact s_step22b lo g gr gm r n v1 v2 v3 s pc W x h hs hr hx hlo hpc ⟨o, e⟩
  · by_cases e : 32 ≤ rg s x.a
    · exact s_step23a lo g gr gm r n v1 v2 v3 s pc W x h hs hr hx hlo hpc ⟨o, e⟩
    · exact s_step23b lo g gr gm r n v1 v2 v3 s pc W x h hs hr hx hlo hpc ⟨o, e⟩
  · by_cases e : 32 ≤ rg s x.a
    · exact s_step24a lo g gr gm r n v1 v2 v3 s pc W x h hs hr hx hlo hpc ⟨o, e⟩
    · exact s_step24b lo g gr gm r n v1 v2 v3 s pc W x h hs hr hx hlo hpc ⟨o, e⟩
  · by_cases e : s.out.length = 30
    · exact s_step25a lo g gr gm r n v1 v2 v3 s pc W x h hs hr hx hlo hpc ⟨o, e⟩
    · exact s_step25b lo g gr gm r n v1 v2 v3 s pc W x h hs hr hx hlo hpc ⟨o, e⟩
  · exact s_step31 lo g gr gm r n v1 v2 v3 s pc W x h hs hr hx hlo hpc o
  · by_cases e : rg s x.a % 2 = 1
    · exact s_step32a lo g gr gm r n v1 v2 v3 s pc W x h hs hr hx hlo hpc ⟨o, e⟩
    · exact s_step32b lo g gr gm r n v1 v2 v3 s pc W x h hs hr hx hlo hpc ⟨o, e⟩
  · exact s_step33 lo g gr gm r n v1 v2 v3 s pc W x h hs hr hx hlo hpc o
  · exact s_step34 lo g gr gm r n v1 v2 v3 s pc W x h hs hr hx hlo hpc o
  · exact s_step35 lo g gr gm r n v1 v2 v3 s pc W x h hs hr hx hlo hpc o
end Go.Proofs.Ytdnbiohohbnhgaa
set_option linter.unusedSimpArgs false
set_option linter.unusedVariables false
namespace Go.Proofs.Ytdnbiohohbnhgaa
open Go.RowKit
/-- A step of the reference's machine is a step of the run. -/
theorem run_step (p : XProg) (n : Int) (k : Nat) (pc : Int) (s : MS) : runM p n (k + 1) pc s =
    if (stepX (p.code.getD pc.toNat default) s pc).2.2.2.2 = true then ⟨(stepX (p.code.getD pc.toNat default) s pc).2.2.2.1, (stepX (p.code.getD pc.toNat default) s pc).2.2.1, n - k, (stepX (p.code.getD pc.toNat default) s pc).1⟩
    else runM p n k (stepX (p.code.getD pc.toNat default) s pc).2.1 (stepX (p.code.getD pc.toNat default) s pc).1 := by
  generalize hx : p.code.getD pc.toNat default = x
  simp only [runM]
  rw [hx]
  unfold stepX
  by_cases h1 : x.op = 31 ∨ (x.op = 32 ∧ rg s x.a % 2 = 1)
  · simp only [if_pos h1]; simp
  simp only [if_neg h1]
  by_cases h2 : x.op = 32
  · simp only [if_pos h2]; simp
  simp only [if_neg h2]
  by_cases h3 : x.op = 33
  · simp only [if_pos h3]; simp
  simp only [if_neg h3]
  by_cases h4 : x.op = 34
  · simp only [if_pos h4]; simp
  simp only [if_neg h4]
  by_cases h5 : (doM x s).2 = 0
  · simp only [if_pos h5]; simp
  · simp only [if_neg h5]; simp
theorem step_ok {r n : Int} {x : XMIns} {s : MS} (h : MOk r s) (hx : minsOk r n x = true) (pc : Int) : MOk r (stepX x s pc).1 := by
  have := doM_ok h hx
  unfold stepX
  repeat' split
  all_goals first | exact h | exact this
theorem step_on {p : XProg} {s : MS} (pc : Int) (hp : progOk p = true) (h0 : 0 ≤ pc) (h1 : pc < p.code.length) (hd : (stepX (p.code.getD pc.toNat default) s pc).2.2.2.2 = false) :
    (stepX (p.code.getD pc.toNat default) s pc).2.2.1 = 0 ∧ (stepX (p.code.getD pc.toNat default) s pc).2.2.2.1 = 0 ∧ 0 ≤ (stepX (p.code.getD pc.toNat default) s pc).2.1 ∧ (stepX (p.code.getD pc.toNat default) s pc).2.1 < p.code.length := by
  have hmin := pc_ins hp pc h0 h1
  have hnext := pc_next hp pc h0 h1
  generalize p.code.getD pc.toNat default = x at *
  revert hd
  unfold stepX
  by_cases o1 : x.op = 31 ∨ (x.op = 32 ∧ rg s x.a % 2 = 1)
  · simp only [if_pos o1]
    have hj := pc_jump hmin (by rcases o1 with o | o; exact .inl o; exact .inr o.1)
    exact fun _ => ⟨trivial, trivial, by omega, by omega⟩
  simp only [if_neg o1]
  by_cases o2 : x.op = 32
  · simp only [if_pos o2]
    have := hnext (by simp [isEnd, o2])
    exact fun _ => ⟨trivial, trivial, by omega, by omega⟩
  simp only [if_neg o2]
  by_cases o3 : x.op = 33
  · simp only [if_pos o3]; intro h; cases h
  simp only [if_neg o3]
  by_cases o4 : x.op = 34
  · simp only [if_pos o4]; intro h; cases h
  simp only [if_neg o4]
  by_cases o5 : (doM x s).2 = 0
  · simp only [if_pos o5]
    have := hnext (by simp [isEnd, o3, o4]; intro e; exact o1 (.inl e))
    exact fun _ => ⟨trivial, trivial, by omega, by omega⟩
  · simp only [if_neg o5]; intro h; cases h
end Go.Proofs.Ytdnbiohohbnhgaa
