import Derived.Test.YtkcgejbnhpccdaaGreatT13
set_option linter.unusedSimpArgs false
set_option linter.unusedVariables false
namespace Go.Proofs.YtkcgejbnhpccdaaGreat
open Go.RowKit
theorem c_TypeOfB (f : XFunc) (cs : List Value) (id : Int) (w : World) (hf : KFunc lm w f cs) (hfo : Fo f) : Calls Tryz.prog 142 #[.agg cs.toArray, .int .i64 id] w (Ret (.int .i64 (typeOf f id)) w) := c_TypeOf f cs id w hf (by have := hfo.2.1; omega)
theorem c_areTyped1 (f : XFunc) (id wd : Int) (b : Nat) (w : World) (hb : FB w b f) (hfo : Fo f) : Calls Tryz.prog 211 #[.int .i64 id, .int .i64 wd, .pointer (some ⟨b, 0, none⟩)] w (Ret (.bool (typeOf f id == wd)) w) := by
  obtain ⟨A1, c1, A2, c2, h0, h1, h2, h3, h4⟩ := hb
  have ht := c_TypeOfB f _ id w h3 hfo
  generalize typeOf f id = t at *
  clear h3
  go_enter Tryz.func211, Tryz.ntmps211
  go_wp2_with fail
  refine ht.mono ?_; rintro e w1 ⟨rfl, hb1⟩
  go_wp2
  go_ret
  exact ⟨rfl, hb1⟩
set_option maxRecDepth 20000 in
set_option maxHeartbeats 8000000 in
theorem c_areTyped (f : XFunc) (cs : List Value) (i : XInst) (v : Value) (w : World) (hf : KFunc lm w f cs) (hfo : Fo f) (hv : RI lm w v i.args) : Calls Tryz.prog 176 #[.agg cs.toArray, instV i v] w (Ret (.bool (typedI f i)) w) := by
  have hty := fun W hW id => c_TypeOfB f cs id W (KM.mv hf hW) hfo
  obtain ⟨v1, v2, rfl, hp, hb⟩ := hf
  obtain ⟨A1, c1, rfl, -, hl1, -⟩ := hp.sm
  obtain ⟨A2, c2, rfl, hcap, hl2, -⟩ := hb.sm
  obtain ⟨A7, c7, rfl, -, -, -⟩ := hv.sm
  have hbl := fun o o' => ((Below.refl w.heap.size w).al (Nat.le_refl _) o).al (by simp) o'
  have hkf : KFunc lm w f [.slice A1 f.params.length c1, .int .i64 f.ret, .slice A2 f.blocks.length c2] := ⟨_, _, rfl, hp, hb⟩
  obtain ⟨W0, hW0⟩ : ∃ W0 : World, W0 = (w.alloc (.cells #[.slice A1 f.params.length c1, .int .i64 f.ret, .slice A2 f.blocks.length c2] 35)).alloc (.cells #[.int .i64 i.op, .int .i64 i.w, .int .i64 i.a, .int .i64 i.b, .int .i64 i.c, .int .i64 i.imm, .slice A7 i.args.length c7] 26) := ⟨_, rfl⟩
  have hB0 : Below w.heap.size w W0 := by rw [hW0]; exact hbl _ _
  have hz0 : W0.heap.size = w.heap.size + 2 := by rw [hW0]; simp
  have hfb : FB W0 w.heap.size f := ⟨A1, c1, A2, c2, by rw [hW0]; simp, by rw [hW0]; simp, by rw [hW0]; simp, KM.mv hkf hB0, by omega⟩
  have hxc : ∀ W, Below W0.heap.size W0 W → ∀ o, W.cell? ⟨w.heap.size + 1, o, none⟩ = [Value.int .i64 i.op, .int .i64 i.w, .int .i64 i.a, .int .i64 i.b, .int .i64 i.c, .int .i64 i.imm, .slice A7 i.args.length c7][o]? := fun W hW o => (bat hW _ (by omega) o).trans (by rw [hW0]; simp)
  have his := fun W (hW : Below W0.heap.size W0 W) id wd => c_areTyped1 f id wd w.heap.size W (hfb.mv hW) hfo
  have hib := fun W => c_isBinary i.op W
  have e1 := enters_of Tryz.func211 (by kernel_rfl) rfl
  clear hp hb hv hkf hfb hfo
  generalize hR : typedI f i = R
  have hR' := Hd.mk hR
  clear hR
  unfold typedI at hR'
  obtain ⟨op, wd, a, b, c, imm, args⟩ := i
  simp only [instV] at *
  have hxc' := Hd.mk hxc
  have hW0' := Hd.mk hW0
  have hB0' := Hd.mk hB0
  clear hxc hW0 hB0
  have hta := fun W hW => hty W hW a
  clear hty
  cases hbin : bin op
  rotate_left
  · rw [hbin] at hib
    rw [if_pos hbin] at hR'
    clear hbin
    go_enter Tryz.func176, Tryz.ntmps176
    go_wp2_with fail
    rw [← hW0'.out]
    refine (hta W0 hB0'.out).mono ?_; rintro e w1 ⟨rfl, hb1⟩
    have xc := hxc'.out w1 (hb1)
    have x0 := xc 0
    have x1 := xc 1
    have x2 := xc 2
    have x3 := xc 3
    have x4 := xc 4
    have x5 := xc 5
    have x6 := xc 6
    simp at x0 x1 x2 x3 x4 x5 x6
    clear xc
    have hz1 := hb1.size
    have hB1 := Hd.mk (hB0'.out.then hb1)
    have hb1' := Hd.mk hb1
    clear hb1 hta
    go_wp2_with fail
    refine (hib _).mono ?_; rintro e w' ⟨rfl, rfl⟩
    have hi0 := his w1 (hb1'.out) a wd
    obtain ⟨q0, hq0⟩ : ∃ q, (typeOf f a == wd) = q := ⟨_, rfl⟩
    rw [hq0] at hi0
    cases q0 with
    | false =>
      have hv : R = false := hR'.out.symm.trans (by rw [hq0]; rfl)
      subst hv
      clear hR' hq0
      go_wp2_with fail
      refine hi0.mono ?_; rintro e w2 ⟨rfl, hb2⟩
      go_wp2
      go_ret
      exact ⟨rfl, hB1.out.then hb2⟩
    | true =>
      go_wp2_with fail
      refine hi0.mono ?_; rintro e w2 ⟨rfl, hb2⟩
      have hb2x := (hb1'.out).then hb2
      replace x0 := (bat hb2 (w.heap.size + 1) (by first | omega | (simp; done) | (simp; omega)) 0).trans x0
      replace x1 := (bat hb2 (w.heap.size + 1) (by first | omega | (simp; done) | (simp; omega)) 1).trans x1
      replace x2 := (bat hb2 (w.heap.size + 1) (by first | omega | (simp; done) | (simp; omega)) 2).trans x2
      replace x3 := (bat hb2 (w.heap.size + 1) (by first | omega | (simp; done) | (simp; omega)) 3).trans x3
      replace x4 := (bat hb2 (w.heap.size + 1) (by first | omega | (simp; done) | (simp; omega)) 4).trans x4
      replace x5 := (bat hb2 (w.heap.size + 1) (by first | omega | (simp; done) | (simp; omega)) 5).trans x5
      replace x6 := (bat hb2 (w.heap.size + 1) (by first | omega | (simp; done) | (simp; omega)) 6).trans x6
      have hz2 := hb2.size
      have hB2 := Hd.mk (hB1.out.then hb2)
      clear hi0
      have hi1 := his w2 (hb2x) b wd
      obtain ⟨q1, hq1⟩ : ∃ q, (typeOf f b == wd) = q := ⟨_, rfl⟩
      rw [hq1] at hi1
      have hv : R = q1 := hR'.out.symm.trans (by rw [hq0, hq1]; first | done | (cases q1 <;> rfl))
      subst hv
      clear hR' hq0 hq1
      go_wp2_with fail
      refine hi1.mono ?_; rintro e w3 ⟨rfl, hb3⟩
      go_wp2
      go_ret
      exact ⟨by first | rfl | (cases R <;> rfl), hB2.out.then hb3⟩
  rw [hbin] at hib
  rw [if_neg (by rw [hbin]; decide)] at hR'
  clear hbin
  by_cases h27 : op = 27
  · subst h27
    simp only [beq_self_eq_true, if_true, Int.reduceBEq, Bool.false_eq_true, if_false, Bool.or_true, Bool.true_or] at hR'
    go_enter Tryz.func176, Tryz.ntmps176
    go_wp2_with fail
    rw [← hW0'.out]
    refine (hta W0 hB0'.out).mono ?_; rintro e w1 ⟨rfl, hb1⟩
    have xc := hxc'.out w1 (hb1)
    have x0 := xc 0
    have x1 := xc 1
    have x2 := xc 2
    have x3 := xc 3
    have x4 := xc 4
    have x5 := xc 5
    have x6 := xc 6
    simp at x0 x1 x2 x3 x4 x5 x6
    clear xc
    have hz1 := hb1.size
    have hB1 := Hd.mk (hB0'.out.then hb1)
    have hb1' := Hd.mk hb1
    clear hb1 hta
    go_wp2_with fail
    refine (hib _).mono ?_; rintro e w' ⟨rfl, rfl⟩
    have hi0 := his w1 (hb1'.out) a wd
    obtain ⟨q0, hq0⟩ : ∃ q, (typeOf f a == wd) = q := ⟨_, rfl⟩
    rw [hq0] at hi0
    have hv : R = q0 := hR'.out.symm.trans (by rw [hq0]; first | done | (cases q0 <;> rfl))
    subst hv
    clear hR' hq0
    go_wp2_with fail
    refine hi0.mono ?_; rintro e w2 ⟨rfl, hb2⟩
    go_wp2
    go_ret
    exact ⟨by first | rfl | (cases R <;> rfl), hB1.out.then hb2⟩
  have b27 := beqF h27
  by_cases h18 : op = 18
  · subst h18
    simp only [beq_self_eq_true, if_true, Int.reduceBEq, Bool.false_eq_true, if_false, Bool.or_true, Bool.true_or] at hR'
    go_enter Tryz.func176, Tryz.ntmps176
    go_wp2_with fail
    rw [← hW0'.out]
    refine (hta W0 hB0'.out).mono ?_; rintro e w1 ⟨rfl, hb1⟩
    have xc := hxc'.out w1 (hb1)
    have x0 := xc 0
    have x1 := xc 1
    have x2 := xc 2
    have x3 := xc 3
    have x4 := xc 4
    have x5 := xc 5
    have x6 := xc 6
    simp at x0 x1 x2 x3 x4 x5 x6
    clear xc
    have hz1 := hb1.size
    have hB1 := Hd.mk (hB0'.out.then hb1)
    have hb1' := Hd.mk hb1
    clear hb1 hta
    go_wp2_with fail
    refine (hib _).mono ?_; rintro e w' ⟨rfl, rfl⟩
    clear his
    generalize typeOf f a = ta at *
    have hv : R = (ta != 0 && decide (ta < wd)) := hR'.out.symm
    subst hv
    clear hR'
    by_cases t0 : ta = 0
    · subst t0
      go_wp2
      go_ret
      exact ⟨rfl, hB1.out⟩
    have t1 := bneT t0
    go_wp2
    go_ret
    exact ⟨by simp [t0], hB1.out⟩
  have b18 := beqF h18
  by_cases h19 : op = 19
  · subst h19
    simp only [beq_self_eq_true, if_true, Int.reduceBEq, Bool.false_eq_true, if_false, Bool.or_true, Bool.true_or] at hR'
    go_enter Tryz.func176, Tryz.ntmps176
    go_wp2_with fail
    rw [← hW0'.out]
    refine (hta W0 hB0'.out).mono ?_; rintro e w1 ⟨rfl, hb1⟩
    have xc := hxc'.out w1 (hb1)
    have x0 := xc 0
    have x1 := xc 1
    have x2 := xc 2
    have x3 := xc 3
    have x4 := xc 4
    have x5 := xc 5
    have x6 := xc 6
    simp at x0 x1 x2 x3 x4 x5 x6
    clear xc
    have hz1 := hb1.size
    have hB1 := Hd.mk (hB0'.out.then hb1)
    have hb1' := Hd.mk hb1
    clear hb1 hta
    go_wp2_with fail
    refine (hib _).mono ?_; rintro e w' ⟨rfl, rfl⟩
    clear his
    generalize typeOf f a = ta at *
    have hv : R = (ta != 0 && decide (ta < wd)) := hR'.out.symm
    subst hv
    clear hR'
    by_cases t0 : ta = 0
    · subst t0
      go_wp2
      go_ret
      exact ⟨rfl, hB1.out⟩
    have t1 := bneT t0
    go_wp2
    go_ret
    exact ⟨by simp [t0], hB1.out⟩
  have b19 := beqF h19
  by_cases h20 : op = 20
  · subst h20
    simp only [beq_self_eq_true, if_true, Int.reduceBEq, Bool.false_eq_true, if_false, Bool.or_true, Bool.true_or] at hR'
    go_enter Tryz.func176, Tryz.ntmps176
    go_wp2_with fail
    rw [← hW0'.out]
    refine (hta W0 hB0'.out).mono ?_; rintro e w1 ⟨rfl, hb1⟩
    have xc := hxc'.out w1 (hb1)
    have x0 := xc 0
    have x1 := xc 1
    have x2 := xc 2
    have x3 := xc 3
    have x4 := xc 4
    have x5 := xc 5
    have x6 := xc 6
    simp at x0 x1 x2 x3 x4 x5 x6
    clear xc
    have hz1 := hb1.size
    have hB1 := Hd.mk (hB0'.out.then hb1)
    have hb1' := Hd.mk hb1
    clear hb1 hta
    go_wp2_with fail
    refine (hib _).mono ?_; rintro e w' ⟨rfl, rfl⟩
    clear his
    generalize typeOf f a = ta at *
    have hv : R = decide (wd < ta) := hR'.out.symm
    subst hv
    clear hR'
    go_wp2
    go_ret
    exact ⟨by simp, hB1.out⟩
  have b20 := beqF h20
  by_cases h22 : op = 22
  · subst h22
    simp only [beq_self_eq_true, if_true, Int.reduceBEq, Bool.false_eq_true, if_false, Bool.or_true, Bool.true_or] at hR'
    go_enter Tryz.func176, Tryz.ntmps176
    go_wp2_with fail
    rw [← hW0'.out]
    refine (hta W0 hB0'.out).mono ?_; rintro e w1 ⟨rfl, hb1⟩
    have xc := hxc'.out w1 (hb1)
    have x0 := xc 0
    have x1 := xc 1
    have x2 := xc 2
    have x3 := xc 3
    have x4 := xc 4
    have x5 := xc 5
    have x6 := xc 6
    simp at x0 x1 x2 x3 x4 x5 x6
    clear xc
    have hz1 := hb1.size
    have hB1 := Hd.mk (hB0'.out.then hb1)
    have hb1' := Hd.mk hb1
    clear hb1 hta
    go_wp2_with fail
    refine (hib _).mono ?_; rintro e w' ⟨rfl, rfl⟩
    have hi0 := his w1 (hb1'.out) a 1
    obtain ⟨q0, hq0⟩ : ∃ q, (typeOf f a == 1) = q := ⟨_, rfl⟩
    rw [hq0] at hi0
    cases q0 with
    | false =>
      have hv : R = false := hR'.out.symm.trans (by rw [hq0]; rfl)
      subst hv
      clear hR' hq0
      go_wp2_with fail
      refine hi0.mono ?_; rintro e w2 ⟨rfl, hb2⟩
      go_wp2
      go_ret
      exact ⟨rfl, hB1.out.then hb2⟩
    | true =>
      go_wp2_with fail
      refine hi0.mono ?_; rintro e w2 ⟨rfl, hb2⟩
      have hb2x := (hb1'.out).then hb2
      replace x0 := (bat hb2 (w.heap.size + 1) (by first | omega | (simp; done) | (simp; omega)) 0).trans x0
      replace x1 := (bat hb2 (w.heap.size + 1) (by first | omega | (simp; done) | (simp; omega)) 1).trans x1
      replace x2 := (bat hb2 (w.heap.size + 1) (by first | omega | (simp; done) | (simp; omega)) 2).trans x2
      replace x3 := (bat hb2 (w.heap.size + 1) (by first | omega | (simp; done) | (simp; omega)) 3).trans x3
      replace x4 := (bat hb2 (w.heap.size + 1) (by first | omega | (simp; done) | (simp; omega)) 4).trans x4
      replace x5 := (bat hb2 (w.heap.size + 1) (by first | omega | (simp; done) | (simp; omega)) 5).trans x5
      replace x6 := (bat hb2 (w.heap.size + 1) (by first | omega | (simp; done) | (simp; omega)) 6).trans x6
      have hz2 := hb2.size
      have hB2 := Hd.mk (hB1.out.then hb2)
      clear hi0
      have hi1 := his w2 (hb2x) b wd
      obtain ⟨q1, hq1⟩ : ∃ q, (typeOf f b == wd) = q := ⟨_, rfl⟩
      rw [hq1] at hi1
      cases q1 with
      | false =>
        have hv : R = false := hR'.out.symm.trans (by rw [hq0, hq1]; rfl)
        subst hv
        clear hR' hq0 hq1
        go_wp2_with fail
        refine hi1.mono ?_; rintro e w3 ⟨rfl, hb3⟩
        go_wp2
        go_ret
        exact ⟨rfl, hB2.out.then hb3⟩
      | true =>
        go_wp2_with fail
        refine hi1.mono ?_; rintro e w3 ⟨rfl, hb3⟩
        have hb3x := (hb2x).then hb3
        replace x0 := (bat hb3 (w.heap.size + 1) (by first | omega | (simp; done) | (simp; omega)) 0).trans x0
        replace x1 := (bat hb3 (w.heap.size + 1) (by first | omega | (simp; done) | (simp; omega)) 1).trans x1
        replace x2 := (bat hb3 (w.heap.size + 1) (by first | omega | (simp; done) | (simp; omega)) 2).trans x2
        replace x3 := (bat hb3 (w.heap.size + 1) (by first | omega | (simp; done) | (simp; omega)) 3).trans x3
        replace x4 := (bat hb3 (w.heap.size + 1) (by first | omega | (simp; done) | (simp; omega)) 4).trans x4
        replace x5 := (bat hb3 (w.heap.size + 1) (by first | omega | (simp; done) | (simp; omega)) 5).trans x5
        replace x6 := (bat hb3 (w.heap.size + 1) (by first | omega | (simp; done) | (simp; omega)) 6).trans x6
        have hz3 := hb3.size
        have hB3 := Hd.mk (hB2.out.then hb3)
        clear hi1
        have hi2 := his w3 (hb3x) c wd
        obtain ⟨q2, hq2⟩ : ∃ q, (typeOf f c == wd) = q := ⟨_, rfl⟩
        rw [hq2] at hi2
        have hv : R = q2 := hR'.out.symm.trans (by rw [hq0, hq1, hq2]; first | done | (cases q2 <;> rfl))
        subst hv
        clear hR' hq0 hq1 hq2
        go_wp2_with fail
        refine hi2.mono ?_; rintro e w4 ⟨rfl, hb4⟩
        go_wp2
        go_ret
        exact ⟨by first | rfl | (cases R <;> rfl), hB3.out.then hb4⟩
  have b22 := beqF h22
  by_cases h23 : op = 23
  · subst h23
    simp only [beq_self_eq_true, if_true, Int.reduceBEq, Bool.false_eq_true, if_false, Bool.or_true, Bool.true_or] at hR'
    go_enter Tryz.func176, Tryz.ntmps176
    go_wp2_with fail
    rw [← hW0'.out]
    refine (hta W0 hB0'.out).mono ?_; rintro e w1 ⟨rfl, hb1⟩
    have xc := hxc'.out w1 (hb1)
    have x0 := xc 0
    have x1 := xc 1
    have x2 := xc 2
    have x3 := xc 3
    have x4 := xc 4
    have x5 := xc 5
    have x6 := xc 6
    simp at x0 x1 x2 x3 x4 x5 x6
    clear xc
    have hz1 := hb1.size
    have hB1 := Hd.mk (hB0'.out.then hb1)
    have hb1' := Hd.mk hb1
    clear hb1 hta
    go_wp2_with fail
    refine (hib _).mono ?_; rintro e w' ⟨rfl, rfl⟩
    have hi0 := his w1 (hb1'.out) a 32
    obtain ⟨q0, hq0⟩ : ∃ q, (typeOf f a == 32) = q := ⟨_, rfl⟩
    rw [hq0] at hi0
    have hv : R = q0 := hR'.out.symm.trans (by rw [hq0]; first | done | (cases q0 <;> rfl))
    subst hv
    clear hR' hq0
    go_wp2_with fail
    refine hi0.mono ?_; rintro e w2 ⟨rfl, hb2⟩
    go_wp2
    go_ret
    exact ⟨by first | rfl | (cases R <;> rfl), hB1.out.then hb2⟩
  have b23 := beqF h23
  by_cases h24 : op = 24
  · subst h24
    simp only [beq_self_eq_true, if_true, Int.reduceBEq, Bool.false_eq_true, if_false, Bool.or_true, Bool.true_or] at hR'
    go_enter Tryz.func176, Tryz.ntmps176
    go_wp2_with fail
    rw [← hW0'.out]
    refine (hta W0 hB0'.out).mono ?_; rintro e w1 ⟨rfl, hb1⟩
    have xc := hxc'.out w1 (hb1)
    have x0 := xc 0
    have x1 := xc 1
    have x2 := xc 2
    have x3 := xc 3
    have x4 := xc 4
    have x5 := xc 5
    have x6 := xc 6
    simp at x0 x1 x2 x3 x4 x5 x6
    clear xc
    have hz1 := hb1.size
    have hB1 := Hd.mk (hB0'.out.then hb1)
    have hb1' := Hd.mk hb1
    clear hb1 hta
    go_wp2_with fail
    refine (hib _).mono ?_; rintro e w' ⟨rfl, rfl⟩
    have hi0 := his w1 (hb1'.out) a 32
    obtain ⟨q0, hq0⟩ : ∃ q, (typeOf f a == 32) = q := ⟨_, rfl⟩
    rw [hq0] at hi0
    cases q0 with
    | false =>
      have hv : R = false := hR'.out.symm.trans (by rw [hq0]; rfl)
      subst hv
      clear hR' hq0
      go_wp2_with fail
      refine hi0.mono ?_; rintro e w2 ⟨rfl, hb2⟩
      go_wp2
      go_ret
      exact ⟨rfl, hB1.out.then hb2⟩
    | true =>
      go_wp2_with fail
      refine hi0.mono ?_; rintro e w2 ⟨rfl, hb2⟩
      have hb2x := (hb1'.out).then hb2
      replace x0 := (bat hb2 (w.heap.size + 1) (by first | omega | (simp; done) | (simp; omega)) 0).trans x0
      replace x1 := (bat hb2 (w.heap.size + 1) (by first | omega | (simp; done) | (simp; omega)) 1).trans x1
      replace x2 := (bat hb2 (w.heap.size + 1) (by first | omega | (simp; done) | (simp; omega)) 2).trans x2
      replace x3 := (bat hb2 (w.heap.size + 1) (by first | omega | (simp; done) | (simp; omega)) 3).trans x3
      replace x4 := (bat hb2 (w.heap.size + 1) (by first | omega | (simp; done) | (simp; omega)) 4).trans x4
      replace x5 := (bat hb2 (w.heap.size + 1) (by first | omega | (simp; done) | (simp; omega)) 5).trans x5
      replace x6 := (bat hb2 (w.heap.size + 1) (by first | omega | (simp; done) | (simp; omega)) 6).trans x6
      have hz2 := hb2.size
      have hB2 := Hd.mk (hB1.out.then hb2)
      clear hi0
      have hi1 := his w2 (hb2x) b 8
      obtain ⟨q1, hq1⟩ : ∃ q, (typeOf f b == 8) = q := ⟨_, rfl⟩
      rw [hq1] at hi1
      have hv : R = q1 := hR'.out.symm.trans (by rw [hq0, hq1]; first | done | (cases q1 <;> rfl))
      subst hv
      clear hR' hq0 hq1
      go_wp2_with fail
      refine hi1.mono ?_; rintro e w3 ⟨rfl, hb3⟩
      go_wp2
      go_ret
      exact ⟨by first | rfl | (cases R <;> rfl), hB2.out.then hb3⟩
  have b24 := beqF h24
  by_cases h25 : op = 25
  · subst h25
    simp only [beq_self_eq_true, if_true, Int.reduceBEq, Bool.false_eq_true, if_false, Bool.or_true, Bool.true_or] at hR'
    go_enter Tryz.func176, Tryz.ntmps176
    go_wp2_with fail
    rw [← hW0'.out]
    refine (hta W0 hB0'.out).mono ?_; rintro e w1 ⟨rfl, hb1⟩
    have xc := hxc'.out w1 (hb1)
    have x0 := xc 0
    have x1 := xc 1
    have x2 := xc 2
    have x3 := xc 3
    have x4 := xc 4
    have x5 := xc 5
    have x6 := xc 6
    simp at x0 x1 x2 x3 x4 x5 x6
    clear xc
    have hz1 := hb1.size
    have hB1 := Hd.mk (hB0'.out.then hb1)
    have hb1' := Hd.mk hb1
    clear hb1 hta
    go_wp2_with fail
    refine (hib _).mono ?_; rintro e w' ⟨rfl, rfl⟩
    clear his
    generalize typeOf f a = ta at *
    have hv : R = (ta != 0) := hR'.out.symm
    subst hv
    clear hR'
    go_wp2
    go_ret
    exact ⟨rfl, hB1.out⟩
  have b25 := beqF h25
  have hv : R = true := by rw [← hR'.out]; simp [h27, h18, h19, h20, h22, h23, h24, h25]
  subst hv
  clear hR'
  go_enter Tryz.func176, Tryz.ntmps176
  go_wp2_with fail
  rw [← hW0'.out]
  refine (hta W0 hB0'.out).mono ?_; rintro e w1 ⟨rfl, hb1⟩
  have xc := hxc'.out w1 (hb1)
  have x0 := xc 0
  have x1 := xc 1
  have x2 := xc 2
  have x3 := xc 3
  have x4 := xc 4
  have x5 := xc 5
  have x6 := xc 6
  simp at x0 x1 x2 x3 x4 x5 x6
  clear xc
  have hz1 := hb1.size
  have hB1 := Hd.mk (hB0'.out.then hb1)
  have hb1' := Hd.mk hb1
  clear hb1 hta
  go_wp2_with fail
  refine (hib _).mono ?_; rintro e w' ⟨rfl, rfl⟩
  go_wp2
  go_ret
  exact ⟨rfl, hB1.out⟩
end Go.Proofs.YtkcgejbnhpccdaaGreat
