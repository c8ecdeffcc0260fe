import Derived.Test.YtkcgejbnhpccdaaGreatT17
import Derived.Test.YtkcgejbnhpccdaaGreatT10
set_option linter.unusedSimpArgs false
set_option linter.unusedVariables false
namespace Go.Proofs.YtkcgejbnhpccdaaGreat
open Go.RowKit
set_option maxRecDepth 20000 in
set_option maxHeartbeats 8000000 in
theorem s_l4Args (f : XFunc) (cs : List Value) (i : XInst) (v : Value) (n : Int) (w : World) (hf : KFunc lm w f cs) (hok : funcOk f n = true) (hi : instOk (countOf f) n i = true) (hv : RI lm w v i.args) : Calls Tryz.prog 150 #[.agg cs.toArray, instV i v] w (Ret (.bool (typedI f i)) w) := by
  have hc60 := (func_fo hok).2.1
  obtain ⟨⟨ha0, ha1⟩, ⟨hb0, hb1⟩, hc0, hc1⟩ := inst_abc hi (countOf_nn f)
  have hnn := Hd.mk (fun (h : i.op = 18 ∨ i.op = 19 ∨ i.op = 25) => type_nn hok ha0 (by
    have := (inst_parts hi).2.1 i.a (by unfold opsOf bin cst inR; rcases h with e | e | e <;> simp [e])
    exact this.2))
  have hty := fun W hW id hid => s_TypeOfK f cs id n W (KM.mv hf hW) hok hid
  obtain ⟨v1, v2, rfl, hp, hb⟩ := hf
  obtain ⟨A1, c1, rfl, -, hl1, -⟩ := hp.sm
  obtain ⟨A2, c2, rfl, hcap, hl2, -⟩ := hb.sm
  obtain ⟨A7, c7, rfl, -, -, -⟩ := hv.sm
  have hbl := fun o o' => ((Below.refl w.heap.size w).al (Nat.le_refl _) o).al (by simp) o'
  obtain ⟨W0, hW0⟩ : ∃ W0 : World, W0 = (w.alloc (.cells #[.slice A1 f.params.length c1, .int .i64 f.ret, .slice A2 f.blocks.length c2] 35)).alloc (.cells #[.int .i64 i.op, .int .i64 i.w, .int .i64 i.a, .int .i64 i.b, .int .i64 i.c, .int .i64 i.imm, .slice A7 i.args.length c7] 26) := ⟨_, rfl⟩
  have hB0 : Below w.heap.size w W0 := by rw [hW0]; exact hbl _ _
  have hz0 : W0.heap.size = w.heap.size + 2 := by rw [hW0]; simp
  have hxc : ∀ o u, [Value.int .i64 i.op, .int .i64 i.w, .int .i64 i.a, .int .i64 i.b, .int .i64 i.c, .int .i64 i.imm, .slice A7 i.args.length c7][o]? = some u → W0.cell? ⟨w.heap.size + 1, o, none⟩ = some u := fun o u hu => by rw [hW0]; exact new_cell _ _ _ (by simp) o u (by simpa using hu)
  have hzf : ∀ o u, [Value.slice A1 f.params.length c1, .int .i64 f.ret, .slice A2 f.blocks.length c2][o]? = some u → W0.cell? ⟨w.heap.size, o, none⟩ = some u := fun o u hu => by rw [hW0]; exact (World.cell?_alloc_past _ _ _ (by first | omega | (simp; done) | (simp; omega))).trans (new_cell _ _ _ rfl o u (by simpa using hu))
  have hib := fun W => s_l1In i.op 1 17 W
  clear hp hb hv hi
  generalize hR : typedI f i = R
  have hR' := Hd.mk hR
  clear hR
  unfold typedI at hR'
  obtain ⟨op, wd, a, b, c, imm, args⟩ := i
  simp only [instV] at *
  have hxc' := Hd.mk hxc
  have hzf' := Hd.mk hzf
  have hW0' := Hd.mk hW0
  have hB0' := Hd.mk hB0
  clear hxc hzf hW0 hB0
  have hta := fun W hW => hty W hW a (by omega)
  have htb := fun W hW => hty W hW b (by omega)
  have htc := fun W hW => hty W hW c (by omega)
  clear hty
  have hok' := Hd.mk hok
  clear hok ha0 ha1 hb0 hb1 hc0 hc1
  generalize typeOf f a = ta at *
  generalize typeOf f b = tb at *
  generalize typeOf f c = tc at *
  have hbi : inR op 1 17 = bin op := rfl
  rw [hbi] at hib
  clear hbi
  cases hbin : bin op
  rotate_left
  · rw [hbin] at hib
    rw [if_pos hbin] at hR'
    clear hbin
    have hv : R = (ta == wd && tb == wd) := hR'.out.symm
    subst hv
    clear hR'
    go_enter Tryz.func150, Tryz.ntmps150
    go_wp2_with fail
    rw [← hW0'.out]
    have y0 := hzf'.out 0 _ rfl
    have y1 := hzf'.out 1 _ rfl
    have y2 := hzf'.out 2 _ rfl
    have x0 := hxc'.out 0 _ rfl
    have x1 := hxc'.out 1 _ rfl
    have x2 := hxc'.out 2 _ rfl
    have x3 := hxc'.out 3 _ rfl
    have x4 := hxc'.out 4 _ rfl
    have x5 := hxc'.out 5 _ rfl
    have x6 := hxc'.out 6 _ rfl
    go_wp2_with fail
    refine (hta W0 hB0'.out).mono ?_; rintro e w1 ⟨rfl, hb1⟩
    replace y0 := (bat hb1 w.heap.size (by omega) 0).trans y0
    replace y1 := (bat hb1 w.heap.size (by omega) 1).trans y1
    replace y2 := (bat hb1 w.heap.size (by omega) 2).trans y2
    replace x0 := (bat hb1 (w.heap.size + 1) (by omega) 0).trans x0
    replace x1 := (bat hb1 (w.heap.size + 1) (by omega) 1).trans x1
    replace x2 := (bat hb1 (w.heap.size + 1) (by omega) 2).trans x2
    replace x3 := (bat hb1 (w.heap.size + 1) (by omega) 3).trans x3
    replace x4 := (bat hb1 (w.heap.size + 1) (by omega) 4).trans x4
    replace x5 := (bat hb1 (w.heap.size + 1) (by omega) 5).trans x5
    replace x6 := (bat hb1 (w.heap.size + 1) (by omega) 6).trans x6
    have hz1 := hb1.size
    have hB1 := Hd.mk (hB0'.out.then hb1)
    have hlw : w.heap.size + 1 < w1.heap.size := by omega
    clear hb1 hta
    go_wp2_with fail
    refine (hib _).mono ?_; rintro e w' ⟨rfl, rfl⟩
    cases q0 : (ta == wd) with
    | false =>
      go_wp2
      refine wp_region_bel (by kernel_rfl) (by kernel_rfl) ?_
      simp only [List.toList_toArray]
      repeat' first
        | (refine seq_val (by rfl) (by intro W hS; have s0 := (bat hS w.heap.size (by omega) 0).trans y0; have s1 := (bat hS w.heap.size (by omega) 1).trans y1; have s2 := (bat hS w.heap.size (by omega) 2).trans y2; have r0 := (bat hS (w.heap.size + 1) hlw 0).trans x0; have r1 := (bat hS (w.heap.size + 1) hlw 1).trans x1; have r2 := (bat hS (w.heap.size + 1) hlw 2).trans x2; have r3 := (bat hS (w.heap.size + 1) hlw 3).trans x3; have r4 := (bat hS (w.heap.size + 1) hlw 4).trans x4; have r5 := (bat hS (w.heap.size + 1) hlw 5).trans x5; have r6 := (bat hS (w.heap.size + 1) hlw 6).trans x6; go_simp; first | done | rfl) ?_; simp only [Act.put, List.setIfInBounds_toArray, List.set_cons_zero, List.set_cons_succ])
        | (refine seq_skip (by rfl) ?_; simp only [Act.put, List.setIfInBounds_toArray, List.set_cons_zero, List.set_cons_succ])
        | fail
      refine seq_nil (fun W hS => ?_)
      have s0 := (bat hS w.heap.size (by omega) 0).trans y0
      have s1 := (bat hS w.heap.size (by omega) 1).trans y1
      have s2 := (bat hS w.heap.size (by omega) 2).trans y2
      have r0 := (bat hS (w.heap.size + 1) hlw 0).trans x0
      have r1 := (bat hS (w.heap.size + 1) hlw 1).trans x1
      have r2 := (bat hS (w.heap.size + 1) hlw 2).trans x2
      have r3 := (bat hS (w.heap.size + 1) hlw 3).trans x3
      have r4 := (bat hS (w.heap.size + 1) hlw 4).trans x4
      have r5 := (bat hS (w.heap.size + 1) hlw 5).trans x5
      have r6 := (bat hS (w.heap.size + 1) hlw 6).trans x6
      go_wp2
      go_ret
      exact ⟨by simp [q0], hB1.out.then hS⟩
    | true =>
      cases q1 : (tb == wd) with
      | false =>
        go_wp2
        refine wp_region_bel (by kernel_rfl) (by kernel_rfl) ?_
        simp only [List.toList_toArray]
        repeat' first
          | (refine seq_val (by rfl) (by intro W hS; have s0 := (bat hS w.heap.size (by omega) 0).trans y0; have s1 := (bat hS w.heap.size (by omega) 1).trans y1; have s2 := (bat hS w.heap.size (by omega) 2).trans y2; have r0 := (bat hS (w.heap.size + 1) hlw 0).trans x0; have r1 := (bat hS (w.heap.size + 1) hlw 1).trans x1; have r2 := (bat hS (w.heap.size + 1) hlw 2).trans x2; have r3 := (bat hS (w.heap.size + 1) hlw 3).trans x3; have r4 := (bat hS (w.heap.size + 1) hlw 4).trans x4; have r5 := (bat hS (w.heap.size + 1) hlw 5).trans x5; have r6 := (bat hS (w.heap.size + 1) hlw 6).trans x6; go_simp; first | done | rfl) ?_; simp only [Act.put, List.setIfInBounds_toArray, List.set_cons_zero, List.set_cons_succ])
          | (refine seq_skip (by rfl) ?_; simp only [Act.put, List.setIfInBounds_toArray, List.set_cons_zero, List.set_cons_succ])
          | (refine seq_ret 149 _ (by rfl) (by intro W hS; have s0 := (bat hS w.heap.size (by omega) 0).trans y0; have s1 := (bat hS w.heap.size (by omega) 1).trans y1; have s2 := (bat hS w.heap.size (by omega) 2).trans y2; have r0 := (bat hS (w.heap.size + 1) hlw 0).trans x0; have r1 := (bat hS (w.heap.size + 1) hlw 1).trans x1; have r2 := (bat hS (w.heap.size + 1) hlw 2).trans x2; have r3 := (bat hS (w.heap.size + 1) hlw 3).trans x3; have r4 := (bat hS (w.heap.size + 1) hlw 4).trans x4; have r5 := (bat hS (w.heap.size + 1) hlw 5).trans x5; have r6 := (bat hS (w.heap.size + 1) hlw 6).trans x6; go_simp; first | done | rfl) (fun W hS => htb W (hB1.out.then hS)) ?_; simp only [Act.put, List.setIfInBounds_toArray, List.set_cons_zero, List.set_cons_succ])
          | fail
        refine seq_nil (fun W hS => ?_)
        have s0 := (bat hS w.heap.size (by omega) 0).trans y0
        have s1 := (bat hS w.heap.size (by omega) 1).trans y1
        have s2 := (bat hS w.heap.size (by omega) 2).trans y2
        have r0 := (bat hS (w.heap.size + 1) hlw 0).trans x0
        have r1 := (bat hS (w.heap.size + 1) hlw 1).trans x1
        have r2 := (bat hS (w.heap.size + 1) hlw 2).trans x2
        have r3 := (bat hS (w.heap.size + 1) hlw 3).trans x3
        have r4 := (bat hS (w.heap.size + 1) hlw 4).trans x4
        have r5 := (bat hS (w.heap.size + 1) hlw 5).trans x5
        have r6 := (bat hS (w.heap.size + 1) hlw 6).trans x6
        go_wp2
        go_ret
        exact ⟨by simp [q0, q1], hB1.out.then hS⟩
      | true =>
        go_wp2
        refine wp_region_bel (by kernel_rfl) (by kernel_rfl) ?_
        simp only [List.toList_toArray]
        repeat' first
          | (refine seq_val (by rfl) (by intro W hS; have s0 := (bat hS w.heap.size (by omega) 0).trans y0; have s1 := (bat hS w.heap.size (by omega) 1).trans y1; have s2 := (bat hS w.heap.size (by omega) 2).trans y2; have r0 := (bat hS (w.heap.size + 1) hlw 0).trans x0; have r1 := (bat hS (w.heap.size + 1) hlw 1).trans x1; have r2 := (bat hS (w.heap.size + 1) hlw 2).trans x2; have r3 := (bat hS (w.heap.size + 1) hlw 3).trans x3; have r4 := (bat hS (w.heap.size + 1) hlw 4).trans x4; have r5 := (bat hS (w.heap.size + 1) hlw 5).trans x5; have r6 := (bat hS (w.heap.size + 1) hlw 6).trans x6; go_simp; first | done | rfl) ?_; simp only [Act.put, List.setIfInBounds_toArray, List.set_cons_zero, List.set_cons_succ])
          | (refine seq_skip (by rfl) ?_; simp only [Act.put, List.setIfInBounds_toArray, List.set_cons_zero, List.set_cons_succ])
          | (refine seq_ret 149 _ (by rfl) (by intro W hS; have s0 := (bat hS w.heap.size (by omega) 0).trans y0; have s1 := (bat hS w.heap.size (by omega) 1).trans y1; have s2 := (bat hS w.heap.size (by omega) 2).trans y2; have r0 := (bat hS (w.heap.size + 1) hlw 0).trans x0; have r1 := (bat hS (w.heap.size + 1) hlw 1).trans x1; have r2 := (bat hS (w.heap.size + 1) hlw 2).trans x2; have r3 := (bat hS (w.heap.size + 1) hlw 3).trans x3; have r4 := (bat hS (w.heap.size + 1) hlw 4).trans x4; have r5 := (bat hS (w.heap.size + 1) hlw 5).trans x5; have r6 := (bat hS (w.heap.size + 1) hlw 6).trans x6; go_simp; first | done | rfl) (fun W hS => htb W (hB1.out.then hS)) ?_; simp only [Act.put, List.setIfInBounds_toArray, List.set_cons_zero, List.set_cons_succ])
          | fail
        refine seq_nil (fun W hS => ?_)
        have s0 := (bat hS w.heap.size (by omega) 0).trans y0
        have s1 := (bat hS w.heap.size (by omega) 1).trans y1
        have s2 := (bat hS w.heap.size (by omega) 2).trans y2
        have r0 := (bat hS (w.heap.size + 1) hlw 0).trans x0
        have r1 := (bat hS (w.heap.size + 1) hlw 1).trans x1
        have r2 := (bat hS (w.heap.size + 1) hlw 2).trans x2
        have r3 := (bat hS (w.heap.size + 1) hlw 3).trans x3
        have r4 := (bat hS (w.heap.size + 1) hlw 4).trans x4
        have r5 := (bat hS (w.heap.size + 1) hlw 5).trans x5
        have r6 := (bat hS (w.heap.size + 1) hlw 6).trans x6
        go_wp2
        go_ret
        exact ⟨by simp [q0, q1], hB1.out.then hS⟩
  rw [hbin] at hib
  rw [if_neg (by rw [hbin]; decide)] at hR'
  clear hbin
  by_cases h27 : op = 27
  · subst h27
    simp only [beq_self_eq_true, if_true, Int.reduceBEq, Bool.false_eq_true, if_false, Bool.or_true, Bool.true_or] at hR'
    have hv : R = (ta == wd) := hR'.out.symm
    subst hv
    clear hR'
    go_enter Tryz.func150, Tryz.ntmps150
    go_wp2_with fail
    rw [← hW0'.out]
    have y0 := hzf'.out 0 _ rfl
    have y1 := hzf'.out 1 _ rfl
    have y2 := hzf'.out 2 _ rfl
    have x0 := hxc'.out 0 _ rfl
    have x1 := hxc'.out 1 _ rfl
    have x2 := hxc'.out 2 _ rfl
    have x3 := hxc'.out 3 _ rfl
    have x4 := hxc'.out 4 _ rfl
    have x5 := hxc'.out 5 _ rfl
    have x6 := hxc'.out 6 _ rfl
    go_wp2_with fail
    refine (hta W0 hB0'.out).mono ?_; rintro e w1 ⟨rfl, hb1⟩
    replace y0 := (bat hb1 w.heap.size (by omega) 0).trans y0
    replace y1 := (bat hb1 w.heap.size (by omega) 1).trans y1
    replace y2 := (bat hb1 w.heap.size (by omega) 2).trans y2
    replace x0 := (bat hb1 (w.heap.size + 1) (by omega) 0).trans x0
    replace x1 := (bat hb1 (w.heap.size + 1) (by omega) 1).trans x1
    replace x2 := (bat hb1 (w.heap.size + 1) (by omega) 2).trans x2
    replace x3 := (bat hb1 (w.heap.size + 1) (by omega) 3).trans x3
    replace x4 := (bat hb1 (w.heap.size + 1) (by omega) 4).trans x4
    replace x5 := (bat hb1 (w.heap.size + 1) (by omega) 5).trans x5
    replace x6 := (bat hb1 (w.heap.size + 1) (by omega) 6).trans x6
    have hz1 := hb1.size
    have hB1 := Hd.mk (hB0'.out.then hb1)
    have hlw : w.heap.size + 1 < w1.heap.size := by omega
    clear hb1 hta
    go_wp2_with fail
    refine (hib _).mono ?_; rintro e w' ⟨rfl, rfl⟩
    go_wp2
    go_ret
    exact ⟨by first | rfl | simp, hB1.out⟩
  have b27 := beqF h27
  simp only [b27, Bool.false_eq_true, if_false, Bool.or_false, Bool.false_or] at hR'
  by_cases h18 : op = 18
  · subst h18
    simp only [beq_self_eq_true, if_true, Int.reduceBEq, Bool.false_eq_true, if_false, Bool.or_true, Bool.true_or] at hR'
    have nn := hnn.out (by simp)
    have hpos : (ta != 0) = decide (ta > 0) := by
      by_cases t : ta = 0
      · subst t; rfl
      · rw [bneT t]; exact (decide_eq_true (by omega)).symm
    rw [hpos] at hR'
    clear hpos nn
    have hv : R = (decide (ta > 0) && decide (ta < wd)) := hR'.out.symm
    subst hv
    clear hR'
    by_cases t0 : ta > 0
    · have t1 : decide (ta > 0) = true := by simpa using t0
      go_enter Tryz.func150, Tryz.ntmps150
      go_wp2_with fail
      rw [← hW0'.out]
      have y0 := hzf'.out 0 _ rfl
      have y1 := hzf'.out 1 _ rfl
      have y2 := hzf'.out 2 _ rfl
      have x0 := hxc'.out 0 _ rfl
      have x1 := hxc'.out 1 _ rfl
      have x2 := hxc'.out 2 _ rfl
      have x3 := hxc'.out 3 _ rfl
      have x4 := hxc'.out 4 _ rfl
      have x5 := hxc'.out 5 _ rfl
      have x6 := hxc'.out 6 _ rfl
      go_wp2_with fail
      refine (hta W0 hB0'.out).mono ?_; rintro e w1 ⟨rfl, hb1⟩
      replace y0 := (bat hb1 w.heap.size (by omega) 0).trans y0
      replace y1 := (bat hb1 w.heap.size (by omega) 1).trans y1
      replace y2 := (bat hb1 w.heap.size (by omega) 2).trans y2
      replace x0 := (bat hb1 (w.heap.size + 1) (by omega) 0).trans x0
      replace x1 := (bat hb1 (w.heap.size + 1) (by omega) 1).trans x1
      replace x2 := (bat hb1 (w.heap.size + 1) (by omega) 2).trans x2
      replace x3 := (bat hb1 (w.heap.size + 1) (by omega) 3).trans x3
      replace x4 := (bat hb1 (w.heap.size + 1) (by omega) 4).trans x4
      replace x5 := (bat hb1 (w.heap.size + 1) (by omega) 5).trans x5
      replace x6 := (bat hb1 (w.heap.size + 1) (by omega) 6).trans x6
      have hz1 := hb1.size
      have hB1 := Hd.mk (hB0'.out.then hb1)
      have hlw : w.heap.size + 1 < w1.heap.size := by omega
      clear hb1 hta
      go_wp2_with fail
      refine (hib _).mono ?_; rintro e w' ⟨rfl, rfl⟩
      go_wp2
      go_ret
      exact ⟨by first | (simp [t0]; done) | (simp; omega), hB1.out⟩
    have t1 : decide (ta > 0) = false := by simpa using t0
    go_enter Tryz.func150, Tryz.ntmps150
    go_wp2_with fail
    rw [← hW0'.out]
    have y0 := hzf'.out 0 _ rfl
    have y1 := hzf'.out 1 _ rfl
    have y2 := hzf'.out 2 _ rfl
    have x0 := hxc'.out 0 _ rfl
    have x1 := hxc'.out 1 _ rfl
    have x2 := hxc'.out 2 _ rfl
    have x3 := hxc'.out 3 _ rfl
    have x4 := hxc'.out 4 _ rfl
    have x5 := hxc'.out 5 _ rfl
    have x6 := hxc'.out 6 _ rfl
    go_wp2_with fail
    refine (hta W0 hB0'.out).mono ?_; rintro e w1 ⟨rfl, hb1⟩
    replace y0 := (bat hb1 w.heap.size (by omega) 0).trans y0
    replace y1 := (bat hb1 w.heap.size (by omega) 1).trans y1
    replace y2 := (bat hb1 w.heap.size (by omega) 2).trans y2
    replace x0 := (bat hb1 (w.heap.size + 1) (by omega) 0).trans x0
    replace x1 := (bat hb1 (w.heap.size + 1) (by omega) 1).trans x1
    replace x2 := (bat hb1 (w.heap.size + 1) (by omega) 2).trans x2
    replace x3 := (bat hb1 (w.heap.size + 1) (by omega) 3).trans x3
    replace x4 := (bat hb1 (w.heap.size + 1) (by omega) 4).trans x4
    replace x5 := (bat hb1 (w.heap.size + 1) (by omega) 5).trans x5
    replace x6 := (bat hb1 (w.heap.size + 1) (by omega) 6).trans x6
    have hz1 := hb1.size
    have hB1 := Hd.mk (hB0'.out.then hb1)
    have hlw : w.heap.size + 1 < w1.heap.size := by omega
    clear hb1 hta
    go_wp2_with fail
    refine (hib _).mono ?_; rintro e w' ⟨rfl, rfl⟩
    go_wp2
    go_ret
    exact ⟨by first | (simp [t0]; done) | (simp; omega), hB1.out⟩
  have b18 := beqF h18
  simp only [b18, Bool.false_eq_true, if_false, Bool.or_false, Bool.false_or] at hR'
  by_cases h19 : op = 19
  · subst h19
    simp only [beq_self_eq_true, if_true, Int.reduceBEq, Bool.false_eq_true, if_false, Bool.or_true, Bool.true_or] at hR'
    have nn := hnn.out (by simp)
    have hpos : (ta != 0) = decide (ta > 0) := by
      by_cases t : ta = 0
      · subst t; rfl
      · rw [bneT t]; exact (decide_eq_true (by omega)).symm
    rw [hpos] at hR'
    clear hpos nn
    have hv : R = (decide (ta > 0) && decide (ta < wd)) := hR'.out.symm
    subst hv
    clear hR'
    by_cases t0 : ta > 0
    · have t1 : decide (ta > 0) = true := by simpa using t0
      go_enter Tryz.func150, Tryz.ntmps150
      go_wp2_with fail
      rw [← hW0'.out]
      have y0 := hzf'.out 0 _ rfl
      have y1 := hzf'.out 1 _ rfl
      have y2 := hzf'.out 2 _ rfl
      have x0 := hxc'.out 0 _ rfl
      have x1 := hxc'.out 1 _ rfl
      have x2 := hxc'.out 2 _ rfl
      have x3 := hxc'.out 3 _ rfl
      have x4 := hxc'.out 4 _ rfl
      have x5 := hxc'.out 5 _ rfl
      have x6 := hxc'.out 6 _ rfl
      go_wp2_with fail
      refine (hta W0 hB0'.out).mono ?_; rintro e w1 ⟨rfl, hb1⟩
      replace y0 := (bat hb1 w.heap.size (by omega) 0).trans y0
      replace y1 := (bat hb1 w.heap.size (by omega) 1).trans y1
      replace y2 := (bat hb1 w.heap.size (by omega) 2).trans y2
      replace x0 := (bat hb1 (w.heap.size + 1) (by omega) 0).trans x0
      replace x1 := (bat hb1 (w.heap.size + 1) (by omega) 1).trans x1
      replace x2 := (bat hb1 (w.heap.size + 1) (by omega) 2).trans x2
      replace x3 := (bat hb1 (w.heap.size + 1) (by omega) 3).trans x3
      replace x4 := (bat hb1 (w.heap.size + 1) (by omega) 4).trans x4
      replace x5 := (bat hb1 (w.heap.size + 1) (by omega) 5).trans x5
      replace x6 := (bat hb1 (w.heap.size + 1) (by omega) 6).trans x6
      have hz1 := hb1.size
      have hB1 := Hd.mk (hB0'.out.then hb1)
      have hlw : w.heap.size + 1 < w1.heap.size := by omega
      clear hb1 hta
      go_wp2_with fail
      refine (hib _).mono ?_; rintro e w' ⟨rfl, rfl⟩
      go_wp2
      go_ret
      exact ⟨by first | (simp [t0]; done) | (simp; omega), hB1.out⟩
    have t1 : decide (ta > 0) = false := by simpa using t0
    go_enter Tryz.func150, Tryz.ntmps150
    go_wp2_with fail
    rw [← hW0'.out]
    have y0 := hzf'.out 0 _ rfl
    have y1 := hzf'.out 1 _ rfl
    have y2 := hzf'.out 2 _ rfl
    have x0 := hxc'.out 0 _ rfl
    have x1 := hxc'.out 1 _ rfl
    have x2 := hxc'.out 2 _ rfl
    have x3 := hxc'.out 3 _ rfl
    have x4 := hxc'.out 4 _ rfl
    have x5 := hxc'.out 5 _ rfl
    have x6 := hxc'.out 6 _ rfl
    go_wp2_with fail
    refine (hta W0 hB0'.out).mono ?_; rintro e w1 ⟨rfl, hb1⟩
    replace y0 := (bat hb1 w.heap.size (by omega) 0).trans y0
    replace y1 := (bat hb1 w.heap.size (by omega) 1).trans y1
    replace y2 := (bat hb1 w.heap.size (by omega) 2).trans y2
    replace x0 := (bat hb1 (w.heap.size + 1) (by omega) 0).trans x0
    replace x1 := (bat hb1 (w.heap.size + 1) (by omega) 1).trans x1
    replace x2 := (bat hb1 (w.heap.size + 1) (by omega) 2).trans x2
    replace x3 := (bat hb1 (w.heap.size + 1) (by omega) 3).trans x3
    replace x4 := (bat hb1 (w.heap.size + 1) (by omega) 4).trans x4
    replace x5 := (bat hb1 (w.heap.size + 1) (by omega) 5).trans x5
    replace x6 := (bat hb1 (w.heap.size + 1) (by omega) 6).trans x6
    have hz1 := hb1.size
    have hB1 := Hd.mk (hB0'.out.then hb1)
    have hlw : w.heap.size + 1 < w1.heap.size := by omega
    clear hb1 hta
    go_wp2_with fail
    refine (hib _).mono ?_; rintro e w' ⟨rfl, rfl⟩
    go_wp2
    go_ret
    exact ⟨by first | (simp [t0]; done) | (simp; omega), hB1.out⟩
  have b19 := beqF h19
  simp only [b19, Bool.false_eq_true, if_false, Bool.or_false, Bool.false_or] at hR'
  by_cases h20 : op = 20
  · subst h20
    simp only [beq_self_eq_true, if_true, Int.reduceBEq, Bool.false_eq_true, if_false, Bool.or_true, Bool.true_or] at hR'
    have hv : R = (decide (wd < ta)) := hR'.out.symm
    subst hv
    clear hR'
    go_enter Tryz.func150, Tryz.ntmps150
    go_wp2_with fail
    rw [← hW0'.out]
    have y0 := hzf'.out 0 _ rfl
    have y1 := hzf'.out 1 _ rfl
    have y2 := hzf'.out 2 _ rfl
    have x0 := hxc'.out 0 _ rfl
    have x1 := hxc'.out 1 _ rfl
    have x2 := hxc'.out 2 _ rfl
    have x3 := hxc'.out 3 _ rfl
    have x4 := hxc'.out 4 _ rfl
    have x5 := hxc'.out 5 _ rfl
    have x6 := hxc'.out 6 _ rfl
    go_wp2_with fail
    refine (hta W0 hB0'.out).mono ?_; rintro e w1 ⟨rfl, hb1⟩
    replace y0 := (bat hb1 w.heap.size (by omega) 0).trans y0
    replace y1 := (bat hb1 w.heap.size (by omega) 1).trans y1
    replace y2 := (bat hb1 w.heap.size (by omega) 2).trans y2
    replace x0 := (bat hb1 (w.heap.size + 1) (by omega) 0).trans x0
    replace x1 := (bat hb1 (w.heap.size + 1) (by omega) 1).trans x1
    replace x2 := (bat hb1 (w.heap.size + 1) (by omega) 2).trans x2
    replace x3 := (bat hb1 (w.heap.size + 1) (by omega) 3).trans x3
    replace x4 := (bat hb1 (w.heap.size + 1) (by omega) 4).trans x4
    replace x5 := (bat hb1 (w.heap.size + 1) (by omega) 5).trans x5
    replace x6 := (bat hb1 (w.heap.size + 1) (by omega) 6).trans x6
    have hz1 := hb1.size
    have hB1 := Hd.mk (hB0'.out.then hb1)
    have hlw : w.heap.size + 1 < w1.heap.size := by omega
    clear hb1 hta
    go_wp2_with fail
    refine (hib _).mono ?_; rintro e w' ⟨rfl, rfl⟩
    go_wp2
    go_ret
    exact ⟨by first | rfl | simp, hB1.out⟩
  have b20 := beqF h20
  simp only [b20, Bool.false_eq_true, if_false, Bool.or_false, Bool.false_or] at hR'
  by_cases h22 : op = 22
  · subst h22
    simp only [beq_self_eq_true, if_true, Int.reduceBEq, Bool.false_eq_true, if_false, Bool.or_true, Bool.true_or] at hR'
    have hv : R = (ta == 1 && tb == wd && tc == wd) := hR'.out.symm
    subst hv
    clear hR'
    go_enter Tryz.func150, Tryz.ntmps150
    go_wp2_with fail
    rw [← hW0'.out]
    have y0 := hzf'.out 0 _ rfl
    have y1 := hzf'.out 1 _ rfl
    have y2 := hzf'.out 2 _ rfl
    have x0 := hxc'.out 0 _ rfl
    have x1 := hxc'.out 1 _ rfl
    have x2 := hxc'.out 2 _ rfl
    have x3 := hxc'.out 3 _ rfl
    have x4 := hxc'.out 4 _ rfl
    have x5 := hxc'.out 5 _ rfl
    have x6 := hxc'.out 6 _ rfl
    go_wp2_with fail
    refine (hta W0 hB0'.out).mono ?_; rintro e w1 ⟨rfl, hb1⟩
    replace y0 := (bat hb1 w.heap.size (by omega) 0).trans y0
    replace y1 := (bat hb1 w.heap.size (by omega) 1).trans y1
    replace y2 := (bat hb1 w.heap.size (by omega) 2).trans y2
    replace x0 := (bat hb1 (w.heap.size + 1) (by omega) 0).trans x0
    replace x1 := (bat hb1 (w.heap.size + 1) (by omega) 1).trans x1
    replace x2 := (bat hb1 (w.heap.size + 1) (by omega) 2).trans x2
    replace x3 := (bat hb1 (w.heap.size + 1) (by omega) 3).trans x3
    replace x4 := (bat hb1 (w.heap.size + 1) (by omega) 4).trans x4
    replace x5 := (bat hb1 (w.heap.size + 1) (by omega) 5).trans x5
    replace x6 := (bat hb1 (w.heap.size + 1) (by omega) 6).trans x6
    have hz1 := hb1.size
    have hB1 := Hd.mk (hB0'.out.then hb1)
    have hlw : w.heap.size + 1 < w1.heap.size := by omega
    clear hb1 hta
    go_wp2_with fail
    refine (hib _).mono ?_; rintro e w' ⟨rfl, rfl⟩
    cases q0 : (ta == 1) with
    | false =>
      go_wp2
      refine wp_region_bel (by kernel_rfl) (by kernel_rfl) ?_
      simp only [List.toList_toArray]
      repeat' first
        | (refine seq_val (by rfl) (by intro W hS; have s0 := (bat hS w.heap.size (by omega) 0).trans y0; have s1 := (bat hS w.heap.size (by omega) 1).trans y1; have s2 := (bat hS w.heap.size (by omega) 2).trans y2; have r0 := (bat hS (w.heap.size + 1) hlw 0).trans x0; have r1 := (bat hS (w.heap.size + 1) hlw 1).trans x1; have r2 := (bat hS (w.heap.size + 1) hlw 2).trans x2; have r3 := (bat hS (w.heap.size + 1) hlw 3).trans x3; have r4 := (bat hS (w.heap.size + 1) hlw 4).trans x4; have r5 := (bat hS (w.heap.size + 1) hlw 5).trans x5; have r6 := (bat hS (w.heap.size + 1) hlw 6).trans x6; go_simp; first | done | rfl) ?_; simp only [Act.put, List.setIfInBounds_toArray, List.set_cons_zero, List.set_cons_succ])
        | (refine seq_skip (by rfl) ?_; simp only [Act.put, List.setIfInBounds_toArray, List.set_cons_zero, List.set_cons_succ])
        | fail
      refine seq_nil (fun W hS => ?_)
      have s0 := (bat hS w.heap.size (by omega) 0).trans y0
      have s1 := (bat hS w.heap.size (by omega) 1).trans y1
      have s2 := (bat hS w.heap.size (by omega) 2).trans y2
      have r0 := (bat hS (w.heap.size + 1) hlw 0).trans x0
      have r1 := (bat hS (w.heap.size + 1) hlw 1).trans x1
      have r2 := (bat hS (w.heap.size + 1) hlw 2).trans x2
      have r3 := (bat hS (w.heap.size + 1) hlw 3).trans x3
      have r4 := (bat hS (w.heap.size + 1) hlw 4).trans x4
      have r5 := (bat hS (w.heap.size + 1) hlw 5).trans x5
      have r6 := (bat hS (w.heap.size + 1) hlw 6).trans x6
      go_wp2
      go_ret
      exact ⟨by simp [q0], hB1.out.then hS⟩
    | true =>
      cases q1 : (tb == wd) with
      | false =>
        go_wp2
        refine wp_region_bel (by kernel_rfl) (by kernel_rfl) ?_
        simp only [List.toList_toArray]
        repeat' first
          | (refine seq_val (by rfl) (by intro W hS; have s0 := (bat hS w.heap.size (by omega) 0).trans y0; have s1 := (bat hS w.heap.size (by omega) 1).trans y1; have s2 := (bat hS w.heap.size (by omega) 2).trans y2; have r0 := (bat hS (w.heap.size + 1) hlw 0).trans x0; have r1 := (bat hS (w.heap.size + 1) hlw 1).trans x1; have r2 := (bat hS (w.heap.size + 1) hlw 2).trans x2; have r3 := (bat hS (w.heap.size + 1) hlw 3).trans x3; have r4 := (bat hS (w.heap.size + 1) hlw 4).trans x4; have r5 := (bat hS (w.heap.size + 1) hlw 5).trans x5; have r6 := (bat hS (w.heap.size + 1) hlw 6).trans x6; go_simp; first | done | rfl) ?_; simp only [Act.put, List.setIfInBounds_toArray, List.set_cons_zero, List.set_cons_succ])
          | (refine seq_skip (by rfl) ?_; simp only [Act.put, List.setIfInBounds_toArray, List.set_cons_zero, List.set_cons_succ])
          | (refine seq_ret 149 _ (by rfl) (by intro W hS; have s0 := (bat hS w.heap.size (by omega) 0).trans y0; have s1 := (bat hS w.heap.size (by omega) 1).trans y1; have s2 := (bat hS w.heap.size (by omega) 2).trans y2; have r0 := (bat hS (w.heap.size + 1) hlw 0).trans x0; have r1 := (bat hS (w.heap.size + 1) hlw 1).trans x1; have r2 := (bat hS (w.heap.size + 1) hlw 2).trans x2; have r3 := (bat hS (w.heap.size + 1) hlw 3).trans x3; have r4 := (bat hS (w.heap.size + 1) hlw 4).trans x4; have r5 := (bat hS (w.heap.size + 1) hlw 5).trans x5; have r6 := (bat hS (w.heap.size + 1) hlw 6).trans x6; go_simp; first | done | rfl) (fun W hS => htb W (hB1.out.then hS)) ?_; simp only [Act.put, List.setIfInBounds_toArray, List.set_cons_zero, List.set_cons_succ])
          | fail
        refine seq_nil (fun W hS => ?_)
        have s0 := (bat hS w.heap.size (by omega) 0).trans y0
        have s1 := (bat hS w.heap.size (by omega) 1).trans y1
        have s2 := (bat hS w.heap.size (by omega) 2).trans y2
        have r0 := (bat hS (w.heap.size + 1) hlw 0).trans x0
        have r1 := (bat hS (w.heap.size + 1) hlw 1).trans x1
        have r2 := (bat hS (w.heap.size + 1) hlw 2).trans x2
        have r3 := (bat hS (w.heap.size + 1) hlw 3).trans x3
        have r4 := (bat hS (w.heap.size + 1) hlw 4).trans x4
        have r5 := (bat hS (w.heap.size + 1) hlw 5).trans x5
        have r6 := (bat hS (w.heap.size + 1) hlw 6).trans x6
        go_wp2
        go_ret
        exact ⟨by simp [q0, q1], hB1.out.then hS⟩
      | true =>
        cases q2 : (tc == wd) with
        | false =>
          go_wp2
          refine wp_region_bel (by kernel_rfl) (by kernel_rfl) ?_
          simp only [List.toList_toArray]
          repeat' first
            | (refine seq_val (by rfl) (by intro W hS; have s0 := (bat hS w.heap.size (by omega) 0).trans y0; have s1 := (bat hS w.heap.size (by omega) 1).trans y1; have s2 := (bat hS w.heap.size (by omega) 2).trans y2; have r0 := (bat hS (w.heap.size + 1) hlw 0).trans x0; have r1 := (bat hS (w.heap.size + 1) hlw 1).trans x1; have r2 := (bat hS (w.heap.size + 1) hlw 2).trans x2; have r3 := (bat hS (w.heap.size + 1) hlw 3).trans x3; have r4 := (bat hS (w.heap.size + 1) hlw 4).trans x4; have r5 := (bat hS (w.heap.size + 1) hlw 5).trans x5; have r6 := (bat hS (w.heap.size + 1) hlw 6).trans x6; go_simp; first | done | rfl) ?_; simp only [Act.put, List.setIfInBounds_toArray, List.set_cons_zero, List.set_cons_succ])
            | (refine seq_skip (by rfl) ?_; simp only [Act.put, List.setIfInBounds_toArray, List.set_cons_zero, List.set_cons_succ])
            | (refine seq_ret 149 _ (by rfl) (by intro W hS; have s0 := (bat hS w.heap.size (by omega) 0).trans y0; have s1 := (bat hS w.heap.size (by omega) 1).trans y1; have s2 := (bat hS w.heap.size (by omega) 2).trans y2; have r0 := (bat hS (w.heap.size + 1) hlw 0).trans x0; have r1 := (bat hS (w.heap.size + 1) hlw 1).trans x1; have r2 := (bat hS (w.heap.size + 1) hlw 2).trans x2; have r3 := (bat hS (w.heap.size + 1) hlw 3).trans x3; have r4 := (bat hS (w.heap.size + 1) hlw 4).trans x4; have r5 := (bat hS (w.heap.size + 1) hlw 5).trans x5; have r6 := (bat hS (w.heap.size + 1) hlw 6).trans x6; go_simp; first | done | rfl) (fun W hS => htb W (hB1.out.then hS)) ?_; simp only [Act.put, List.setIfInBounds_toArray, List.set_cons_zero, List.set_cons_succ])
            | (refine seq_ret 149 _ (by rfl) (by intro W hS; have s0 := (bat hS w.heap.size (by omega) 0).trans y0; have s1 := (bat hS w.heap.size (by omega) 1).trans y1; have s2 := (bat hS w.heap.size (by omega) 2).trans y2; have r0 := (bat hS (w.heap.size + 1) hlw 0).trans x0; have r1 := (bat hS (w.heap.size + 1) hlw 1).trans x1; have r2 := (bat hS (w.heap.size + 1) hlw 2).trans x2; have r3 := (bat hS (w.heap.size + 1) hlw 3).trans x3; have r4 := (bat hS (w.heap.size + 1) hlw 4).trans x4; have r5 := (bat hS (w.heap.size + 1) hlw 5).trans x5; have r6 := (bat hS (w.heap.size + 1) hlw 6).trans x6; go_simp; first | done | rfl) (fun W hS => htc W (hB1.out.then hS)) ?_; simp only [Act.put, List.setIfInBounds_toArray, List.set_cons_zero, List.set_cons_succ])
            | fail
          refine seq_nil (fun W hS => ?_)
          have s0 := (bat hS w.heap.size (by omega) 0).trans y0
          have s1 := (bat hS w.heap.size (by omega) 1).trans y1
          have s2 := (bat hS w.heap.size (by omega) 2).trans y2
          have r0 := (bat hS (w.heap.size + 1) hlw 0).trans x0
          have r1 := (bat hS (w.heap.size + 1) hlw 1).trans x1
          have r2 := (bat hS (w.heap.size + 1) hlw 2).trans x2
          have r3 := (bat hS (w.heap.size + 1) hlw 3).trans x3
          have r4 := (bat hS (w.heap.size + 1) hlw 4).trans x4
          have r5 := (bat hS (w.heap.size + 1) hlw 5).trans x5
          have r6 := (bat hS (w.heap.size + 1) hlw 6).trans x6
          go_wp2
          go_ret
          exact ⟨by simp [q0, q1, q2], hB1.out.then hS⟩
        | true =>
          go_wp2
          refine wp_region_bel (by kernel_rfl) (by kernel_rfl) ?_
          simp only [List.toList_toArray]
          repeat' first
            | (refine seq_val (by rfl) (by intro W hS; have s0 := (bat hS w.heap.size (by omega) 0).trans y0; have s1 := (bat hS w.heap.size (by omega) 1).trans y1; have s2 := (bat hS w.heap.size (by omega) 2).trans y2; have r0 := (bat hS (w.heap.size + 1) hlw 0).trans x0; have r1 := (bat hS (w.heap.size + 1) hlw 1).trans x1; have r2 := (bat hS (w.heap.size + 1) hlw 2).trans x2; have r3 := (bat hS (w.heap.size + 1) hlw 3).trans x3; have r4 := (bat hS (w.heap.size + 1) hlw 4).trans x4; have r5 := (bat hS (w.heap.size + 1) hlw 5).trans x5; have r6 := (bat hS (w.heap.size + 1) hlw 6).trans x6; go_simp; first | done | rfl) ?_; simp only [Act.put, List.setIfInBounds_toArray, List.set_cons_zero, List.set_cons_succ])
            | (refine seq_skip (by rfl) ?_; simp only [Act.put, List.setIfInBounds_toArray, List.set_cons_zero, List.set_cons_succ])
            | (refine seq_ret 149 _ (by rfl) (by intro W hS; have s0 := (bat hS w.heap.size (by omega) 0).trans y0; have s1 := (bat hS w.heap.size (by omega) 1).trans y1; have s2 := (bat hS w.heap.size (by omega) 2).trans y2; have r0 := (bat hS (w.heap.size + 1) hlw 0).trans x0; have r1 := (bat hS (w.heap.size + 1) hlw 1).trans x1; have r2 := (bat hS (w.heap.size + 1) hlw 2).trans x2; have r3 := (bat hS (w.heap.size + 1) hlw 3).trans x3; have r4 := (bat hS (w.heap.size + 1) hlw 4).trans x4; have r5 := (bat hS (w.heap.size + 1) hlw 5).trans x5; have r6 := (bat hS (w.heap.size + 1) hlw 6).trans x6; go_simp; first | done | rfl) (fun W hS => htb W (hB1.out.then hS)) ?_; simp only [Act.put, List.setIfInBounds_toArray, List.set_cons_zero, List.set_cons_succ])
            | (refine seq_ret 149 _ (by rfl) (by intro W hS; have s0 := (bat hS w.heap.size (by omega) 0).trans y0; have s1 := (bat hS w.heap.size (by omega) 1).trans y1; have s2 := (bat hS w.heap.size (by omega) 2).trans y2; have r0 := (bat hS (w.heap.size + 1) hlw 0).trans x0; have r1 := (bat hS (w.heap.size + 1) hlw 1).trans x1; have r2 := (bat hS (w.heap.size + 1) hlw 2).trans x2; have r3 := (bat hS (w.heap.size + 1) hlw 3).trans x3; have r4 := (bat hS (w.heap.size + 1) hlw 4).trans x4; have r5 := (bat hS (w.heap.size + 1) hlw 5).trans x5; have r6 := (bat hS (w.heap.size + 1) hlw 6).trans x6; go_simp; first | done | rfl) (fun W hS => htc W (hB1.out.then hS)) ?_; simp only [Act.put, List.setIfInBounds_toArray, List.set_cons_zero, List.set_cons_succ])
            | fail
          refine seq_nil (fun W hS => ?_)
          have s0 := (bat hS w.heap.size (by omega) 0).trans y0
          have s1 := (bat hS w.heap.size (by omega) 1).trans y1
          have s2 := (bat hS w.heap.size (by omega) 2).trans y2
          have r0 := (bat hS (w.heap.size + 1) hlw 0).trans x0
          have r1 := (bat hS (w.heap.size + 1) hlw 1).trans x1
          have r2 := (bat hS (w.heap.size + 1) hlw 2).trans x2
          have r3 := (bat hS (w.heap.size + 1) hlw 3).trans x3
          have r4 := (bat hS (w.heap.size + 1) hlw 4).trans x4
          have r5 := (bat hS (w.heap.size + 1) hlw 5).trans x5
          have r6 := (bat hS (w.heap.size + 1) hlw 6).trans x6
          go_wp2
          go_ret
          exact ⟨by simp [q0, q1, q2], hB1.out.then hS⟩
  have b22 := beqF h22
  simp only [b22, Bool.false_eq_true, if_false, Bool.or_false, Bool.false_or] at hR'
  by_cases h23 : op = 23
  · subst h23
    simp only [beq_self_eq_true, if_true, Int.reduceBEq, Bool.false_eq_true, if_false, Bool.or_true, Bool.true_or] at hR'
    have hv : R = (ta == 32) := hR'.out.symm
    subst hv
    clear hR'
    go_enter Tryz.func150, Tryz.ntmps150
    go_wp2_with fail
    rw [← hW0'.out]
    have y0 := hzf'.out 0 _ rfl
    have y1 := hzf'.out 1 _ rfl
    have y2 := hzf'.out 2 _ rfl
    have x0 := hxc'.out 0 _ rfl
    have x1 := hxc'.out 1 _ rfl
    have x2 := hxc'.out 2 _ rfl
    have x3 := hxc'.out 3 _ rfl
    have x4 := hxc'.out 4 _ rfl
    have x5 := hxc'.out 5 _ rfl
    have x6 := hxc'.out 6 _ rfl
    go_wp2_with fail
    refine (hta W0 hB0'.out).mono ?_; rintro e w1 ⟨rfl, hb1⟩
    replace y0 := (bat hb1 w.heap.size (by omega) 0).trans y0
    replace y1 := (bat hb1 w.heap.size (by omega) 1).trans y1
    replace y2 := (bat hb1 w.heap.size (by omega) 2).trans y2
    replace x0 := (bat hb1 (w.heap.size + 1) (by omega) 0).trans x0
    replace x1 := (bat hb1 (w.heap.size + 1) (by omega) 1).trans x1
    replace x2 := (bat hb1 (w.heap.size + 1) (by omega) 2).trans x2
    replace x3 := (bat hb1 (w.heap.size + 1) (by omega) 3).trans x3
    replace x4 := (bat hb1 (w.heap.size + 1) (by omega) 4).trans x4
    replace x5 := (bat hb1 (w.heap.size + 1) (by omega) 5).trans x5
    replace x6 := (bat hb1 (w.heap.size + 1) (by omega) 6).trans x6
    have hz1 := hb1.size
    have hB1 := Hd.mk (hB0'.out.then hb1)
    have hlw : w.heap.size + 1 < w1.heap.size := by omega
    clear hb1 hta
    go_wp2_with fail
    refine (hib _).mono ?_; rintro e w' ⟨rfl, rfl⟩
    go_wp2
    go_ret
    exact ⟨by first | rfl | simp, hB1.out⟩
  have b23 := beqF h23
  simp only [b23, Bool.false_eq_true, if_false, Bool.or_false, Bool.false_or] at hR'
  by_cases h24 : op = 24
  · subst h24
    simp only [beq_self_eq_true, if_true, Int.reduceBEq, Bool.false_eq_true, if_false, Bool.or_true, Bool.true_or] at hR'
    have hv : R = (ta == 32 && tb == 8) := hR'.out.symm
    subst hv
    clear hR'
    go_enter Tryz.func150, Tryz.ntmps150
    go_wp2_with fail
    rw [← hW0'.out]
    have y0 := hzf'.out 0 _ rfl
    have y1 := hzf'.out 1 _ rfl
    have y2 := hzf'.out 2 _ rfl
    have x0 := hxc'.out 0 _ rfl
    have x1 := hxc'.out 1 _ rfl
    have x2 := hxc'.out 2 _ rfl
    have x3 := hxc'.out 3 _ rfl
    have x4 := hxc'.out 4 _ rfl
    have x5 := hxc'.out 5 _ rfl
    have x6 := hxc'.out 6 _ rfl
    go_wp2_with fail
    refine (hta W0 hB0'.out).mono ?_; rintro e w1 ⟨rfl, hb1⟩
    replace y0 := (bat hb1 w.heap.size (by omega) 0).trans y0
    replace y1 := (bat hb1 w.heap.size (by omega) 1).trans y1
    replace y2 := (bat hb1 w.heap.size (by omega) 2).trans y2
    replace x0 := (bat hb1 (w.heap.size + 1) (by omega) 0).trans x0
    replace x1 := (bat hb1 (w.heap.size + 1) (by omega) 1).trans x1
    replace x2 := (bat hb1 (w.heap.size + 1) (by omega) 2).trans x2
    replace x3 := (bat hb1 (w.heap.size + 1) (by omega) 3).trans x3
    replace x4 := (bat hb1 (w.heap.size + 1) (by omega) 4).trans x4
    replace x5 := (bat hb1 (w.heap.size + 1) (by omega) 5).trans x5
    replace x6 := (bat hb1 (w.heap.size + 1) (by omega) 6).trans x6
    have hz1 := hb1.size
    have hB1 := Hd.mk (hB0'.out.then hb1)
    have hlw : w.heap.size + 1 < w1.heap.size := by omega
    clear hb1 hta
    go_wp2_with fail
    refine (hib _).mono ?_; rintro e w' ⟨rfl, rfl⟩
    cases q0 : (ta == 32) with
    | false =>
      go_wp2
      go_ret
      exact ⟨by simp [q0], hB1.out⟩
    | true =>
      go_wp2_with fail
      refine (htb _ hB1.out).mono ?_; rintro e w2 ⟨rfl, hb2⟩
      go_wp2
      go_ret
      exact ⟨by simp [q0], hB1.out.then hb2⟩
  have b24 := beqF h24
  simp only [b24, Bool.false_eq_true, if_false, Bool.or_false, Bool.false_or] at hR'
  by_cases h25 : op = 25
  · subst h25
    simp only [beq_self_eq_true, if_true, Int.reduceBEq, Bool.false_eq_true, if_false, Bool.or_true, Bool.true_or] at hR'
    have nn := hnn.out (by simp)
    have hpos : (ta != 0) = decide (ta > 0) := by
      by_cases t : ta = 0
      · subst t; rfl
      · rw [bneT t]; exact (decide_eq_true (by omega)).symm
    rw [hpos] at hR'
    clear hpos nn
    have hv : R = (decide (ta > 0)) := hR'.out.symm
    subst hv
    clear hR'
    go_enter Tryz.func150, Tryz.ntmps150
    go_wp2_with fail
    rw [← hW0'.out]
    have y0 := hzf'.out 0 _ rfl
    have y1 := hzf'.out 1 _ rfl
    have y2 := hzf'.out 2 _ rfl
    have x0 := hxc'.out 0 _ rfl
    have x1 := hxc'.out 1 _ rfl
    have x2 := hxc'.out 2 _ rfl
    have x3 := hxc'.out 3 _ rfl
    have x4 := hxc'.out 4 _ rfl
    have x5 := hxc'.out 5 _ rfl
    have x6 := hxc'.out 6 _ rfl
    go_wp2_with fail
    refine (hta W0 hB0'.out).mono ?_; rintro e w1 ⟨rfl, hb1⟩
    replace y0 := (bat hb1 w.heap.size (by omega) 0).trans y0
    replace y1 := (bat hb1 w.heap.size (by omega) 1).trans y1
    replace y2 := (bat hb1 w.heap.size (by omega) 2).trans y2
    replace x0 := (bat hb1 (w.heap.size + 1) (by omega) 0).trans x0
    replace x1 := (bat hb1 (w.heap.size + 1) (by omega) 1).trans x1
    replace x2 := (bat hb1 (w.heap.size + 1) (by omega) 2).trans x2
    replace x3 := (bat hb1 (w.heap.size + 1) (by omega) 3).trans x3
    replace x4 := (bat hb1 (w.heap.size + 1) (by omega) 4).trans x4
    replace x5 := (bat hb1 (w.heap.size + 1) (by omega) 5).trans x5
    replace x6 := (bat hb1 (w.heap.size + 1) (by omega) 6).trans x6
    have hz1 := hb1.size
    have hB1 := Hd.mk (hB0'.out.then hb1)
    have hlw : w.heap.size + 1 < w1.heap.size := by omega
    clear hb1 hta
    go_wp2_with fail
    refine (hib _).mono ?_; rintro e w' ⟨rfl, rfl⟩
    go_wp2
    go_ret
    exact ⟨by first | rfl | simp, hB1.out⟩
  have b25 := beqF h25
  simp only [b25, Bool.false_eq_true, if_false, Bool.or_false, Bool.false_or] at hR'
  have hv : R = (true) := hR'.out.symm
  subst hv
  clear hR'
  go_enter Tryz.func150, Tryz.ntmps150
  go_wp2_with fail
  rw [← hW0'.out]
  have y0 := hzf'.out 0 _ rfl
  have y1 := hzf'.out 1 _ rfl
  have y2 := hzf'.out 2 _ rfl
  have x0 := hxc'.out 0 _ rfl
  have x1 := hxc'.out 1 _ rfl
  have x2 := hxc'.out 2 _ rfl
  have x3 := hxc'.out 3 _ rfl
  have x4 := hxc'.out 4 _ rfl
  have x5 := hxc'.out 5 _ rfl
  have x6 := hxc'.out 6 _ rfl
  go_wp2_with fail
  refine (hta W0 hB0'.out).mono ?_; rintro e w1 ⟨rfl, hb1⟩
  replace y0 := (bat hb1 w.heap.size (by omega) 0).trans y0
  replace y1 := (bat hb1 w.heap.size (by omega) 1).trans y1
  replace y2 := (bat hb1 w.heap.size (by omega) 2).trans y2
  replace x0 := (bat hb1 (w.heap.size + 1) (by omega) 0).trans x0
  replace x1 := (bat hb1 (w.heap.size + 1) (by omega) 1).trans x1
  replace x2 := (bat hb1 (w.heap.size + 1) (by omega) 2).trans x2
  replace x3 := (bat hb1 (w.heap.size + 1) (by omega) 3).trans x3
  replace x4 := (bat hb1 (w.heap.size + 1) (by omega) 4).trans x4
  replace x5 := (bat hb1 (w.heap.size + 1) (by omega) 5).trans x5
  replace x6 := (bat hb1 (w.heap.size + 1) (by omega) 6).trans x6
  have hz1 := hb1.size
  have hB1 := Hd.mk (hB0'.out.then hb1)
  have hlw : w.heap.size + 1 < w1.heap.size := by omega
  clear hb1 hta
  go_wp2_with fail
  refine (hib _).mono ?_; rintro e w' ⟨rfl, rfl⟩
  go_wp2
  go_ret
  exact ⟨by first | rfl | simp, hB1.out⟩
end Go.Proofs.YtkcgejbnhpccdaaGreat
