/- Contract of the program's step of the machine. Condition: the state lies as MI says, and the program is right. Contract of the program's run of the machine. Condition: as of its step. -/
import Derived.Test.YtdnbiohohbnhgaaJ07
import Derived.StillTailTactics
import Derived.Deep.RegionLaw
import Derived.Deep.QuietTactic
import Derived.BigQuiet
set_option linter.unusedSimpArgs false
set_option linter.unusedVariables false
namespace Go.Proofs.Ytdnbiohohbnhgaa
open Go.RowKit
theorem MI.lo {lo g gr gm : Nat} {r : Int} {v1 v2 v3 : Value} {s : MS} {W : World} (h : MI lo g gr gm r v1 v2 v3 s W) : lo ≤ g ∧ lo ≤ gm ∧ lo ≤ gr ∧ g ≠ gm ∧ g ≠ gr ∧ gm ≠ gr ∧ g < W.heap.size ∧ gm < W.heap.size ∧ gr < W.heap.size := by
  obtain ⟨Ao, co, cm, h1, h2, h3, ⟨lo2, h4, i1, i2, i3, i4⟩, h6, h7, h8, h9, h10, h11⟩ := h
  exact ⟨h6, h7, h11, h8, h9, h10, by omega, by omega, by omega⟩
theorem own_far {W : World} {lo2 b j e n : Nat} {v u : Value} {cs : List Value} (h : W.ownsRow lo2 e 1 v n cs) (hb : b < lo2) : (W.setCell ⟨b, j, none⟩ u).ownsRow lo2 e 1 v n cs := by
  refine ⟨h.1, ?_⟩
  rcases h.2 with h' | ⟨g', cap, cur, hv, hl, hx, h''⟩
  · exact .inl h'
  · exact .inr ⟨g', cap, cur, hv, hl, heap_off hx (by omega), h''⟩
theorem own_at {W : World} {lo gr b j e n c : Nat} {u : Value} {cs : List Value} (h : W.ownsRow lo e 1 (.slice (some ⟨gr, 0, none⟩) n c) n cs) (hb : gr ≠ b) : (W.setCell ⟨b, j, none⟩ u).ownsRow lo e 1 (.slice (some ⟨gr, 0, none⟩) n c) n cs := by
  refine ⟨h.1, ?_⟩
  rcases h.2 with ⟨h', _⟩ | ⟨g', cap, cur, hv, hl, hx, h''⟩
  · cases h'
  · cases hv
    exact .inr ⟨gr, _, cur, rfl, hl, heap_off hx hb, h''⟩
theorem setCell_size (W : World) (a : Addr) (u : Value) : (W.setCell a u).heap.size = W.heap.size := by simp [World.setCell]
/-- A register is written. -/
theorem MI.setReg {lo g gr gm : Nat} {r : Int} {v1 v2 v3 : Value} {s : MS} {W : World} (h : MI lo g gr gm r v1 v2 v3 s W) (k : Nat) (v : Int) : MI lo g gr gm r v1 v2 v3 ⟨s.regs.set k v, s.mem, s.out⟩ (W.setCell ⟨gr, k, none⟩ (.int .i64 v)) := by
  obtain ⟨Ao, co, cm, h1, h2, h3, ⟨lo2, h4, i1, i2, i3, i4⟩, h6, h7, h8, h9, h10, h11⟩ := h
  refine ⟨Ao, co, cm, heap_off h1 h9, ?_, h3.mv (Below.heap_setCell _ _ _ _ h10), ⟨lo2, own_far h4 i3, i1, i2, i3, by rw [setCell_size]; exact i4⟩, h6, h7, h8, h9, h10, h11⟩
  have := (World.ownsRow.stored h2 k (.int .i64 v)).1
  simpa [List.map_set] using this
/-- A byte is written. -/
theorem MI.setMem {lo g gr gm : Nat} {r : Int} {v1 v2 v3 : Value} {s : MS} {W : World} (h : MI lo g gr gm r v1 v2 v3 s W) (k : Nat) (v : Int) : MI lo g gr gm r v1 v2 v3 ⟨s.regs, s.mem.set k v, s.out⟩ (W.setCell ⟨gm, k, none⟩ (.int .u8 v)) := by
  obtain ⟨Ao, co, cm, h1, h2, h3, ⟨lo2, h4, i1, i2, i3, i4⟩, h6, h7, h8, h9, h10, h11⟩ := h
  exact ⟨Ao, co, cm, heap_off h1 h8, own_at h2 (fun e => h10 e.symm), h3.set k v, ⟨lo2, own_far h4 i2, i1, i2, i3, by rw [setCell_size]; exact i4⟩, h6, h7, h8, h9, h10, h11⟩
/-- What is told out has grown, and is written into the machine. -/
theorem MI.setOut {lo g gr gm n lo2 : Nat} {r : Int} {v1 v2 v3 v' : Value} {s : MS} {W W' : World} {xs : List Int} (h : MI lo g gr gm r v1 v2 v3 s W) (ho : ∃ Ao co, (∃ lo', W.ownsRow lo' 2 1 (.slice Ao s.out.length co) s.out.length (s.out.map (Value.int .i64)) ∧ g < lo' ∧ gm < lo' ∧ gr < lo' ∧ lo' = lo2) ∧ W.grownBy W' (Value.slice Ao s.out.length co).ownBlock) (hl : lo2 ≤ W.heap.size)
    (h' : W'.ownsRow lo2 2 1 v' n (xs.map (Value.int .i64))) (hn : n = xs.length) : MI lo g gr gm r v1 v2 v3 ⟨s.regs, s.mem, xs⟩ (W'.setCell ⟨g, 6, none⟩ v') := by
  subst hn
  obtain ⟨Ao', co', ⟨lo', ho1, j1, j2, j3, rfl⟩, hgb⟩ := ho
  obtain ⟨Ao, co, cm, h1, h2, h3, ⟨-, -, -, -, -, -⟩, h6, h7, h8, h9, h10, h11⟩ := h
  have hk := own_block_ge ho1
  have old : ∀ b, b < lo' → b < W.heap.size → W'.heap[b]? = W.heap[b]? := fun b hb hw => hgb.block b hw (fun e => by
    have := hk b (by first | exact e | exact e.symm)
    omega)
  obtain ⟨A2, c2, rfl, -, -⟩ := own_shape h'
  refine ⟨A2, c2, cm, ?_, ?_, ?_, ⟨lo', own_far h' j1, j1, j2, j3, by rw [setCell_size]; exact Nat.le_trans hl hgb.size⟩, h6, h7, h8, h9, h10, h11⟩
  · have := heap_set (j := 6) (u := .slice A2 xs.length c2) ((old g j1 (by omega)).trans h1)
    simpa using this
  · refine own_at ?_ (fun e => h9 e.symm)
    refine ⟨h2.1, ?_⟩
    rcases h2.2 with ⟨e, _⟩ | ⟨g', cap, cur, hv, hl', hx, h''⟩
    · cases e
    · cases hv
      exact .inr ⟨gr, _, cur, rfl, hl', (old gr j3 (by omega)).trans hx, h''⟩
  · exact (h3.mv (old gm j2 (by omega))).mv (Below.heap_setCell _ _ _ _ (fun e => h8 e.symm))
/-- append to a row of the call's own, as one step of a region that draws. -/
theorem step_app_I {ops : Array Oper} {o : Oper} {a : Act} {W : World} {K : Act → World → Prop} {Q : Exit → Act → World → Prop} {E : Prop} (hgd : o.guard = none) (s x : Operand)
    (ho : o.op = .call { callee := .builtin .append, args := #[s, x], argTypes := #[22, 22] }) (base : Nat) (v : Value) (xs ys : List Int) (hs : a.eval s = v)
    (hown : W.ownsRow base 2 1 v xs.length (xs.map (Value.int .i64))) (ad : Addr) (n c : Nat) (hx : a.eval x = .slice (some ad) n c) (hr : RI lm W (.slice (some ad) n c) ys) (hl : xs.length ≤ 1099511627776) (hb : base ≤ W.heap.size)
    (hK : ∀ v' w', w'.ownsRow base 2 1 v' (xs ++ ys).length ((xs ++ ys).map (Value.int .i64)) → W.grownBy w' v.ownBlock → K (a.put o.dst v') w') :
    if Region.wanted o (yielded ops a.tmps) = true then Oper.wp Try.prog o a W K Q else E := by
  have hw : Region.wanted o (yielded ops a.tmps) = true := by simp [Region.wanted, hgd]
  rw [if_pos hw]
  obtain ⟨i0, hi, hz0, hz1, hz2⟩ := info_parts infoI
  obtain ⟨rfl, hle, hn, hsrc⟩ := hr.src
  obtain ⟨v', w', hrun, r1, r2, _⟩ := run_append_own (P := Try.prog) W base 22 o.type 2 i0 (.int .i64 0) 1 8 Try.underlying22 hi hz0 hz1 hz2 rfl (by decide) v xs.length _ hown ad ys.length c (ys.map (Value.int .i64)) (by simp) (hsrc ad rfl) (by simp [Value.oneCell']) (by unfold maxLen; omega) (by omega) hb
  unfold Oper.wp
  simp [execOp, ho, resolve, invoke, builtin, hs, hx, hrun, Result.andThen]
  exact hK v' w' (by simpa using r1) r2
def DoneM (lo g gr gm : Nat) (r : Int) (v1 v2 v3 : Value) (D : MS × Int) (w : World) (e : Ending) (w' : World) : Prop := e = .returned (.int .i64 D.2) ∧ MI lo g gr gm r v1 v2 v3 D.1 w' ∧ Below lo w w'
set_option maxRecDepth 20000 in
set_option maxHeartbeats 4000000 in
theorem c_do (lo g gr gm : Nat) (r n : Int) (v1 v2 v3 : Value) (s : MS) (W : World) (x : XMIns) (h : MI lo g gr gm r v1 v2 v3 s W) (hs : MOk r s) (hr : r ≤ 130) (hx : minsOk r n x = true) (hlo : lo ≤ W.heap.size) :
    Calls Try.prog 76 #[.pointer (some ⟨g, 0, none⟩), minsV x] W (DoneM lo g gr gm r v1 v2 v3 (doM x s) W) := by
  obtain ⟨rd, ra, rb, rc, -, -⟩ := mins_regs hx
  have hval := fun W h hend => c_value lo g gr gm r n v1 v2 v3 s W x h hs hr hx hend
  obtain ⟨W0, hW0⟩ : ∃ W0 : World, W0 = W.alloc (.cells #[.int .i64 x.op, .int .i64 x.w, .int .i64 x.d, .int .i64 x.a, .int .i64 x.b, .int .i64 x.c, .int .i64 x.imm] 71) := ⟨_, rfl⟩
  have hb0 : Below W.heap.size W W0 := by rw [hW0]; exact (Below.refl _ _).al (Nat.le_refl _) _
  have hM := h.mv hb0
  have hxc : Xc W0 W.heap.size x := by
    rw [hW0]
    refine ⟨?_, ?_, ?_, ?_, ?_, ?_, ?_⟩ <;> simp
  have hrga := reg_cell hM hs x.a ra
  have hrgb := reg_cell hM hs x.b rb
  have hrng := rg_rng hs x.a
  have hrngb := rg_rng hs x.b
  have hMc := hM
  obtain ⟨Ao, co, cm, hh1, -, -, ⟨lo2, hown, i1, i2, i3, i4⟩, -⟩ := hMc
  obtain ⟨kc, -⟩ := row_facts hh1
  have k0 := kc 0
  have k1 := kc 1
  have k2 := kc 2
  have k3 := kc 3
  have k4 := kc 4
  have k5 := kc 5
  have k6 := kc 6
  simp at k0 k1 k2 k3 k4 k5 k6
  have hown' := Hd.mk hown
  have hh1' := Hd.mk hh1
  clear kc hown hh1
  have hl := hM.lo
  have hl0 := h.lo
  have hgl : g < W.heap.size := hl0.2.2.2.2.2.2.1
  have w6 : W.cell? ⟨g, 6, none⟩ = some (.slice Ao s.out.length co) := (bat hb0 g hgl 6).symm.trans k6
  clear hl0
  have hM' := Hd.mk hM
  have hb0' := Hd.mk (hb0.mono hlo)
  have hW0' := Hd.mk hW0
  obtain ⟨op, wd, d, a, b, c, imm⟩ := x
  simp only at rd ra rb rc hrga hrgb hrng hrngb
  obtain ⟨x0, x1, x2, x3, x4, x5, x6⟩ := hxc
  have hD := Hd.mk (show doM ⟨op, wd, d, a, b, c, imm⟩ s = _ from rfl)
  generalize hV : doM ⟨op, wd, d, a, b, c, imm⟩ s = D at hD ⊢
  have hV' := Hd.mk hV
  clear hV hM h hb0 hW0 hD
  unfold doM at hV'
  unfold minsV at *
  simp only at *
  have y2 : a < (r.toNat : Int) := by omega
  have y3 : 0 ≤ a := ra.1
  have y4 : a < max r 0 := by omega
  by_cases o1 : op = 24
  · subst o1
    rw [if_pos rfl] at hV'
    have z2 : b < (r.toNat : Int) := by omega
    have z3 : 0 ≤ b := rb.1
    have z4 : b < max r 0 := by omega
    by_cases h32 : 32 ≤ rg s a
    · rw [if_pos h32] at hV'
      generalize rg s a = ga at *
      have d3 : decide (32 ≤ ga) = true := by simpa using h32
      go_enter Try.func76, Try.ntmps76
      go_wp2
      rw [← hW0'.out]
      go_quiet (fail)
      go_wp2
      go_ret
      exact ⟨by rw [← hV'.out]; rfl, by rw [← hV'.out]; exact hM'.out, drewN_below hb0'.out _⟩
    · rw [if_neg h32] at hV'
      have hml := hs.mem
      have hga := Hd.mk (show rg s a = rg s a from rfl)
      have hgb := Hd.mk (show rg s b = rg s b from rfl)
      generalize hga0 : rg s a = ga at *
      generalize hgb0 : rg s b = gb at *
      have hga1 := Hd.mk hga0
      have hgb1 := Hd.mk hgb0
      clear hga0 hgb0 hga hgb
      have d3 : decide (32 ≤ ga) = false := by simpa using h32
      have y5 : 0 ≤ ga := hrng.1
      have y6 : ga < 32 := by omega
      go_enter Try.func76, Try.ntmps76
      go_wp2
      rw [← hW0'.out]
      go_quiet (fail)
      go_wp2
      have hM1 := Hd.mk (hM'.out.drew nq)
      have hxc1 : Xc (W0.drewN nq) W.heap.size ⟨24, wd, d, a, b, c, imm⟩ := ⟨x0, x1, x2, x3, x4, x5, x6⟩
      have hb1 : Hd (Below lo W (W0.drewN nq)) := ⟨drewN_below hb0'.out _⟩
      clear x0 x1 x2 x3 x4 x5 x6 k0 k1 k2 k3 k4 k5 k6 hrga hrgb hM' hb0' hW0'
      generalize W0.drewN nq = W1 at *
      have hrga := reg_cell hM1.out hs a ra
      have hrgb := reg_cell hM1.out hs b rb
      rw [hga1.out] at hrga
      rw [hgb1.out] at hrgb
      obtain ⟨Ao, co, cm, k0, k1, k2, k3, k4, k5, k6⟩ := hM1.out.cells
      obtain ⟨x0, x1, x2, x3, x4, x5, x6⟩ := hxc1
      have hst := hM1.out.setMem ga.toNat (gb % 256)
      obtain ⟨Ao', co', cm', -, -, hby, -⟩ := hM1.out
      obtain ⟨hby1, hby2⟩ := hby.cell ga.toNat (by omega)
      generalize s.mem[ga.toNat]'(by omega) = bv at *
      have hst' := Hd.mk hst
      clear hst hby
      go_still_tail 22, (by kernel_rfl)
      change wpList _ _ _ _ _ W1.drew
      go_wp2
      go_ret
      exact ⟨by rw [← hV'.out]; rfl, by rw [← hV'.out]; exact hst'.out, (hb1.out.setCell (p := ⟨gm, ga.toNat, none⟩) hl.2.1 _).drew⟩
  rw [if_neg o1] at hV'
  have t1 := beqF o1
  by_cases o2 : op = 25
  · subst o2
    rw [if_pos rfl] at hV'
    by_cases h30 : s.out.length = 30
    · rw [if_pos h30] at hV'
      have d3 : ((s.out.length : Int) == 30) = true := by simp; omega
      go_enter Try.func76, Try.ntmps76
      go_wp2
      go_ret
      exact ⟨by rw [← hV'.out]; rfl, by rw [← hV'.out, ← hW0'.out]; exact hM'.out, by rw [← hW0'.out]; exact hb0'.out⟩
    · rw [if_neg h30] at hV'
      have d3 : ((s.out.length : Int) == 30) = false := by simp; omega
      generalize hga0 : rg s a = ga at *
      have hga1 := Hd.mk hga0
      clear hga0
      go_enter Try.func76, Try.ntmps76
      go_wp2
      rw [← hW0'.out]
      have hal := Hd.mk fun (o : Obj) => (Below.refl W0.heap.size W0.drew).al (Nat.le_refl _) o
      have hol := hs.out
      go_region_law
        ((refine step_app_I rfl _ _ rfl lo2 _ s.out [ga] rfl (own_mv (show W0.drew.ownsRow lo2 _ _ _ _ _ from hown'.out) (hal.out _)) _ 1 1 rfl (rd_one _ _) (by omega) (by simp; omega) ?_
          intro v' w4 ho4 hg4
          have ho1 := own_mv (show W0.drew.ownsRow lo2 _ _ _ _ _ from hown'.out) (hal.out (.cells #[.int .i64 ga] 2))
          have hM1 := MI.mv (W := W0.drew) (show MI lo g gr gm r v1 v2 v3 s W0.drew from hM'.out) (hal.out (.cells #[.int .i64 ga] 2))
          have hgW : w4.heap[g]? = some (.cells #[.int .i64 r, v1, v2, v3, .slice (some ⟨gr, 0, none⟩) r.toNat r.toNat, .slice (some ⟨gm, 0, none⟩) 32 cm, .slice Ao s.out.length co] 75 (0, 0)) := by
            refine (hg4.block g (by simp; omega) (fun e => ?_)).trans (((hal.out (.cells #[.int .i64 ga] 2)).block g (by omega)).trans hh1'.out)
            have := own_block_ge ho1 g (by first | exact e | exact e.symm)
            omega
          obtain ⟨cg, fg⟩ := row_facts hgW
          have c6 := cg 6
          have f6 := fg 6
          simp at c6
          have hb4 : Below lo W w4 := (hb0'.out.trans ⟨rfl, rfl, rfl, Nat.le_refl _, fun _ _ => rfl⟩ : Below lo W W0.drew).al (by show lo ≤ W0.heap.size; omega) (.cells #[.int .i64 ga] 2) |>.grown hg4 (by simp; omega) (fun k hk => by have := own_block_ge ho1 k hk; omega)
          have hst := MI.setOut (xs := s.out ++ [ga]) hM1 ⟨Ao, co, ⟨lo2, ho1, i1, i2, i3, rfl⟩, hg4⟩ (by simp; omega) (by simpa using ho4) rfl
          have hst' := Hd.mk hst
          have hb4' := Hd.mk hb4
          obtain ⟨A2, c2, rfl, -, -⟩ := own_shape ho4
          clear hst hb4 hM1 ho1 hg4 ho4 hgW cg fg))
      all_goals
        go_wp2
        go_ret
        exact ⟨by rw [← hV'.out]; rfl, by have h9 := hst'.out; rw [show (s.out ++ [ga]).length = s.out.length + 1 by simp] at h9; rw [← hV'.out]; exact h9, by first | exact (hb4'.out.setCell (p := ⟨g, 6, none⟩) hl.1 _).drew | exact hb4'.out.setCell (p := ⟨g, 6, none⟩) hl.1 _⟩
  rw [if_neg o2] at hV'
  have t2 := beqF o2
  have hv := hval W0 hM'.out ⟨o1, o2⟩
  have hvr := val_m_rng hs hx
  have y5 : d < (r.toNat : Int) := by omega
  have y6 : 0 ≤ d := rd.1
  have y7 : d < max r 0 := by omega
  by_cases h0 : (valM ⟨op, wd, d, a, b, c, imm⟩ s).2 = 0
  · rw [if_pos h0] at hV'
    rw [h0] at hv
    generalize (valM ⟨op, wd, d, a, b, c, imm⟩ s).1 = va at *
    clear h0 hval
    go_enter Try.func76, Try.ntmps76
    go_wp2_with fail
    rw [← hW0'.out]
    refine hv.mono ?_; rintro e w1 ⟨rfl, hb1⟩
    have hM1 := hM'.out.mv hb1
    have hb1' := Hd.mk (hb0'.out.trans (hb1.mono (by omega)))
    obtain ⟨u0, hu⟩ : ∃ u0, w1.cell? ⟨gr, d.toNat, none⟩ = some u0 := ⟨_, reg_cell hM1 hs d rd⟩
    obtain ⟨AoX, coX, cmX, hX, hrow, -⟩ := hM1
    have hfr := World.ownsRow.frozenAt hrow d.toNat
    obtain ⟨cx, -⟩ := row_facts hX
    have q4 := cx 4
    simp at q4
    have hst := Hd.mk ((hM'.out.mv hb1).setReg d.toNat va)
    have xd := (bat hb1 W.heap.size (by rw [hW0'.out]; simp) 2).trans x2
    clear hX hrow cx hb1 hv
    go_wp2
    go_still_tail 8, (by kernel_rfl)
    change wpList _ _ _ _ _ w1.drew
    go_wp2
    go_ret
    exact ⟨by rw [← hV'.out]; rfl, by rw [← hV'.out]; exact hst.out, by first | exact (hb1'.out.setCell (p := ⟨gr, d.toNat, none⟩) hl.2.2.1 _).drew | exact (Below.drew hb1'.out).setCell (p := ⟨gr, d.toNat, none⟩) hl.2.2.1 _⟩
  · rw [if_neg h0] at hV'
    have d0 := bneT h0
    have d0' := beqF h0
    generalize (valM ⟨op, wd, d, a, b, c, imm⟩ s).1 = va at *
    generalize (valM ⟨op, wd, d, a, b, c, imm⟩ s).2 = vc at *
    clear hval
    go_enter Try.func76, Try.ntmps76
    go_wp2_with fail
    rw [← hW0'.out]
    refine hv.mono ?_; rintro e w1 ⟨rfl, hb1⟩
    have hM1 := Hd.mk (hM'.out.mv hb1)
    have hb1' := Hd.mk (hb0'.out.trans (hb1.mono (by omega)))
    clear hb1 hv
    go_wp2
    go_ret
    exact ⟨by rw [← hV'.out]; rfl, by rw [← hV'.out]; exact hM1.out, hb1'.out⟩
end Go.Proofs.Ytdnbiohohbnhgaa
set_option linter.unusedSimpArgs false
set_option linter.unusedVariables false
namespace Go.Proofs.Ytdnbiohohbnhgaa
open Go.RowKit
def RanM (lo g gr gm : Nat) (r : Int) (v1 v2 v3 : Value) (R : MRes) (w : World) (e : Ending) (w' : World) : Prop := e = .returned (.tuple #[.int .i64 R.code, .int .i64 R.value, .int .i64 R.steps]) ∧ MI lo g gr gm r v1 v2 v3 R.st w' ∧ MOk r R.st ∧ Below lo w w'
set_option maxRecDepth 20000 in
set_option maxHeartbeats 4000000 in
theorem c_run (p : XProg) (w W : World) (g gr gm : Nat) (v1 v2 : Value) (A : Option Addr) (c : Nat) (s : MS) (fuel : Int) (hp : progOk p = true) (hr : 1 ≤ p.regs ∧ p.regs ≤ 130) (hcode : RMIns lm w (.slice A p.code.length c) p.code) (h : MI w.heap.size g gr gm p.regs v1 v2 (.slice A p.code.length c) s W) (hs : MOk p.regs s) (hb : Below w.heap.size w W) (hf : 0 ≤ fuel ∧ fuel ≤ 20000) (hlen : 1 ≤ p.code.length ∧ p.code.length ≤ 600) :
    Calls Try.prog 43 #[.pointer (some ⟨g, 0, none⟩), .int .i64 fuel] W (RanM w.heap.size g gr gm p.regs v1 v2 (.slice A p.code.length c) (runM p fuel fuel.toNat 0 s) w) := by
  obtain ⟨n, rfl⟩ : ∃ n : Nat, fuel = n := ⟨fuel.toNat, by omega⟩
  generalize hR : runM p n (n : Int).toNat 0 s = R
  have hR' := Hd.mk hR
  have h' := Hd.mk h
  have hb' := Hd.mk hb
  have hcode' := Hd.mk hcode
  clear hR h hb hcode
  go_enter Try.func43, Try.ntmps43
  go_wp2
  go_loopw [7, 8] (fun s7 s8 wr => ∃ (k : Nat) (pc : Int) (st : MS), k ≤ n ∧ s7 = .int .i64 pc ∧ s8 = .int .i64 ((n : Int) - k + 1) ∧ 0 ≤ pc ∧ pc < p.code.length ∧ Hd (runM p n k pc st = R) ∧ Hd (MI w.heap.size g gr gm p.regs v1 v2 (.slice A p.code.length c) st wr) ∧ Hd (MOk p.regs st) ∧ Hd (Below w.heap.size w wr)) (fun _ s8 _ => n + 1 - (intOf s8).toNat)
  case atStart => exact ⟨n, 0, s, Nat.le_refl _, rfl, by simp, by omega, by omega, ⟨by have := hR'.out; simpa using this⟩, h', ⟨hs⟩, hb'⟩
  case round =>
    clear hR' h' hb' hs
    obtain ⟨k, pc, st, hk, rfl, rfl, hp0, hp1, hR, hM, hO, hbr⟩ := hrel
    cases k with
    | zero =>
      go_wp2
      go_ret3
      have e := hR.out
      subst e
      exact ⟨by simp [runM], hM.out, hO.out, hbr.out⟩
    | succ k =>
      have hsz := hbr.out.size
      have hmin := pc_ins hp pc hp0 hp1
      have hnext := pc_next hp pc hp0 hp1
      have hstep := Hd.mk (show _ = R from hR.out)
      clear hR
      simp only [runM] at hstep
      obtain ⟨b, off, cs, hA, hbl, ⟨rfl, hop⟩, hat⟩ := hcode'.out.in0 hbr.out pc.toNat (by omega)
      cases hA
      have hx : p.code.getD pc.toNat default = p.code[pc.toNat]'(by omega) := by rw [List.getD_eq_getElem?_getD, List.getElem?_eq_getElem (by omega)]; rfl
      rw [hx] at hmin hnext hstep
      clear hx hop
      have g0 := hat 0 _ rfl
      have g1 := hat 1 _ rfl
      have g2 := hat 2 _ rfl
      have g3 := hat 3 _ rfl
      have g4 := hat 4 _ rfl
      have g5 := hat 5 _ rfl
      have g6 := hat 6 _ rfl
      simp only [Nat.add_zero] at g0
      clear hat
      generalize p.code[pc.toNat]'(by omega) = x at *
      obtain ⟨op, wd, d, a, b', c', imm⟩ := x
      simp only at *
      obtain ⟨rd, ra, rb, rc, -, -⟩ := mins_regs hmin
      simp only at rd ra rb rc
      obtain ⟨Ao, co, cm, k0, k1, k2, k3, k4, k5, k6⟩ := hM.out.cells
      have hl := hM.out.lo
      have hgl : g < wr.heap.size := hl.2.2.2.2.2.2.1
      have hwk : (n : Int) - ((k + 1 : Nat) : Int) + 1 ≤ n := by omega
      obtain ⟨W1, hW1⟩ : ∃ W1 : World, W1 = wr.alloc (.cells #[.int .i64 op, .int .i64 wd, .int .i64 d, .int .i64 a, .int .i64 b', .int .i64 c', .int .i64 imm] 71) := ⟨_, rfl⟩
      have hb0 : Below wr.heap.size wr W1 := by rw [hW1]; exact (Below.refl _ _).al (Nat.le_refl _) _
      have hM1 := Hd.mk (hM.out.mv hb0)
      have hb1 := Hd.mk (hbr.out.then hb0)
      have hxc : Xc W1 wr.heap.size ⟨op, wd, d, a, b', c', imm⟩ := by
        rw [hW1]
        refine ⟨?_, ?_, ?_, ?_, ?_, ?_, ?_⟩ <;> simp
      obtain ⟨x0, x1, x2, x3, x4, x5, x6⟩ := hxc
      have hz1 := hb1.out.size
      have hrga := reg_cell hM1.out hO.out a ra
      have hrng := rg_rng hO.out a
      have hW1' := Hd.mk hW1
      have z1 : a < (p.regs.toNat : Int) := by omega
      have z2 : 0 ≤ a := ra.1
      have z3 : a < max p.regs 0 := by omega
      have zs : (n : Int) - (k + 1) + 1 = n - k := by omega
      have hq4 : W1.cell? ⟨g, 4, none⟩ = some (.slice (some ⟨gr, 0, none⟩) p.regs.toNat p.regs.toNat) := (bat hb0 g hgl 4).trans k4
      clear hb0 hW1 rc
      simp only at x0 x1 x2 x3 x4 x5 x6
      by_cases o31 : op = 31
      · subst o31
        rw [if_pos (Or.inl rfl)] at hstep
        have hj := pc_jump hmin (Or.inl rfl)
        simp only at hj
        go_wp2
        go_roundw
        case rel => exact ⟨k, imm, st, by omega, rfl, by congr 1 <;> omega, by omega, by omega, hstep, by rw [← hW1'.out]; exact hM1, hO, by rw [← hW1'.out]; exact hb1⟩
        case measure => simp [intOf]; omega
      have t31 := beqF o31
      by_cases o32 : op = 32
      · subst o32
        have hj := pc_jump hmin (Or.inr rfl)
        simp only at hj
        by_cases hodd : rg st a % 2 = 1
        · rw [if_pos (Or.inr ⟨rfl, hodd⟩)] at hstep
          generalize rg st a = ga at *
          have t2 : (ga % 2 == 1) = true := by simpa using hodd
          go_wp2
          rw [← hW1'.out]
          go_quiet (fail)
          go_wp2
          go_roundw
          case rel => exact ⟨k, imm, st, by omega, rfl, by congr 1 <;> omega, by omega, by omega, hstep, ⟨hM1.out.drew _⟩, hO, ⟨drewN_below hb1.out _⟩⟩
          case measure => simp [intOf]; omega
        · rw [if_neg (by intro h; rcases h with h | h; exact absurd h (by decide); exact hodd h.2), if_pos rfl] at hstep
          have hn := hnext rfl
          generalize rg st a = ga at *
          have t2 : (ga % 2 == 1) = false := by simpa using hodd
          go_wp2
          rw [← hW1'.out]
          go_quiet (fail)
          go_wp2
          go_roundw
          case rel => exact ⟨k, pc + 1, st, by omega, rfl, by congr 1 <;> omega, by omega, by omega, hstep, ⟨hM1.out.drew _⟩, hO, ⟨drewN_below hb1.out _⟩⟩
          case measure => simp [intOf]; omega
      have t32 := beqF o32
      rw [if_neg (by intro h; rcases h with h | h; exact o31 h; exact o32 h.1), if_neg o32] at hstep
      by_cases o33 : op = 33
      · subst o33
        rw [if_pos rfl] at hstep
        have hmk := fun N => c_masked w.heap.size g gr gm p.regs v1 v2 _ st (W1.drewN N) wd a (hM1.out.drew N) hO.out ra hr.2
        go_wp2
        rw [← hW1'.out]
        go_quiet (fail)
        go_wp2_with fail
        refine (hmk _).mono ?_; rintro e w2 ⟨rfl, rfl⟩
        go_wp2
        go_ret3
        have e := hstep.out
        subst e
        exact ⟨by first | rfl | (congr 3; simp; omega), hM1.out.drew _, hO.out, drewN_below hb1.out _⟩
      have t33 := beqF o33
      rw [if_neg o33] at hstep
      by_cases o34 : op = 34
      · subst o34
        rw [if_pos rfl] at hstep
        go_wp2
        rw [← hW1'.out]
        go_quiet (fail)
        go_wp2
        go_ret3
        have e := hstep.out
        subst e
        exact ⟨by first | rfl | (congr 3; simp; omega), hM1.out.drew _, hO.out, drewN_below hb1.out _⟩
      have t34 := beqF o34
      rw [if_neg o34] at hstep
      have hend : isEnd op = false := by simp [isEnd, o31, o33, o34]
      have hn := hnext hend
      have hdo := fun N => c_do w.heap.size g gr gm p.regs p.code.length v1 v2 _ st (W1.drewN N) ⟨op, wd, d, a, b', c', imm⟩ (hM1.out.drew N) hO.out hr.2 hmin hz1
      have hok := doM_ok hO.out hmin
      unfold minsV at hdo
      simp only at hdo
      generalize doM ⟨op, wd, d, a, b', c', imm⟩ st = D at *
      have hok' := Hd.mk hok
      clear hok
      by_cases h0 : D.2 = 0
      · rw [if_pos h0] at hstep
        have d0 : (D.2 != 0) = false := by simpa using h0
        have d0' : (D.2 == 0) = true := by simpa using h0
        go_wp2
        rw [← hW1'.out]
        go_quiet (fail)
        go_wp2_with fail
        refine (hdo _).mono ?_; rintro e w2 ⟨rfl, hM2, hb2⟩
        have hM2' := Hd.mk hM2
        have hb2' := Hd.mk ((drewN_below hb1.out _).trans hb2)
        clear hM2 hb2 hdo
        go_wp2
        go_roundw
        case rel => exact ⟨k, pc + 1, D.1, by omega, rfl, by congr 1 <;> omega, by omega, by omega, hstep, hM2', hok', hb2'⟩
        case measure => simp [intOf]; omega
      · rw [if_neg h0] at hstep
        have d0 := bneT h0
        have d0' := beqF h0
        go_wp2
        rw [← hW1'.out]
        go_quiet (fail)
        go_wp2_with fail
        refine (hdo _).mono ?_; rintro e w2 ⟨rfl, hM2, hb2⟩
        have hM2' := Hd.mk hM2
        have hb2' := Hd.mk ((drewN_below hb1.out _).trans hb2)
        clear hM2 hb2 hdo
        go_wp2
        go_ret3
        have e := hstep.out
        subst e
        exact ⟨by first | rfl | (congr 3; simp; omega), hM2'.out, hok'.out, hb2'.out⟩
end Go.Proofs.Ytdnbiohohbnhgaa
