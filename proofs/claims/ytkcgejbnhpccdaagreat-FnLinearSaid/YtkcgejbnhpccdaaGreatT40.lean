import Derived.Test.YtkcgejbnhpccdaaGreatT20
set_option linter.unusedSimpArgs false
set_option linter.unusedVariables false
namespace Go.Proofs.YtkcgejbnhpccdaaGreat
open Go.RowKit
set_option maxRecDepth 20000 in
set_option maxHeartbeats 4000000 in
theorem s_l19Same (x y : XRes) (cs ds : List Value) (w : World) (hx : KRes w x cs) (hy : KRes w y ds) : Calls Tryz.prog 60 #[.agg cs.toArray, .agg ds.toArray] w (Ret (.bool (sameR x y)) w) := by
  obtain ⟨v1, rfl, r1⟩ := hx
  obtain ⟨u1, rfl, s1⟩ := hy
  have hbl := fun o o' => ((Below.refl w.heap.size w).al (Nat.le_refl _) o).al (by simp) o'
  obtain ⟨xcode, xvalue, xout, xmem, xsteps⟩ := x
  obtain ⟨ycode, yvalue, yout, ymem, ysteps⟩ := y
  simp only at *
  unfold sameR
  simp only
  obtain ⟨A1, c1, rfl, -, hl1, hv0⟩ := r1.sm
  obtain ⟨A2, c2, rfl, -, hl2, hu0⟩ := s1.sm
  clear r1 s1
  cases h1 : xcode == ycode with
  | false =>
    have d1 : (xcode != ycode) = true := by unfold bne; rw [h1]; rfl
    go_enter Tryz.func60, Tryz.ntmps60
    go_wp2
    go_ret
    exact ⟨by simp, hbl _ _⟩
  | true =>
    have d1 : (xcode != ycode) = false := by unfold bne; rw [h1]; rfl
    cases h2 : xvalue == yvalue with
    | false =>
      have d2 : (xvalue != yvalue) = true := by unfold bne; rw [h2]; rfl
      go_enter Tryz.func60, Tryz.ntmps60
      go_wp2
      go_ret
      exact ⟨by simp, hbl _ _⟩
    | true =>
      have d2 : (xvalue != yvalue) = false := by unfold bne; rw [h2]; rfl
      cases h3 : xmem.toList == ymem.toList with
      | false =>
        have d3 : (xmem.toList != ymem.toList) = true := by unfold bne; rw [h3]; rfl
        go_enter Tryz.func60, Tryz.ntmps60
        go_wp2
        go_ret
        exact ⟨by simp, hbl _ _⟩
      | true =>
        have d3 : (xmem.toList != ymem.toList) = false := by unfold bne; rw [h3]; rfl
        by_cases hlen : xout.length = yout.length
        rotate_left
        · have d : ((xout.length : Int) != (yout.length : Int)) = true := by simp; omega
          rw [decide_eq_false (len_ne hlen)]
          go_enter Tryz.func60, Tryz.ntmps60
          go_wp2
          go_ret
          exact ⟨by simp, hbl _ _⟩
        obtain ⟨n, hn⟩ : ∃ n, n = xout.length := ⟨_, rfl⟩
        have hn2 : n = yout.length := hn.trans hlen
        rw [← hn, ← hn2]
        rw [← hn] at hv0 hl1
        rw [← hn2] at hu0
        have hn' := Hd.mk hn
        have hn2' := Hd.mk hn2
        obtain ⟨W0, hW0⟩ : ∃ W0 : World, W0 = (w.alloc (.cells #[.int .i64 xcode, .int .i64 xvalue, .slice A1 n c1, .string xmem, .int .i64 xsteps] 40)).alloc (.cells #[.int .i64 ycode, .int .i64 yvalue, .slice A2 n c2, .string ymem, .int .i64 ysteps] 40) := ⟨_, rfl⟩
        have hB0 : Hd (Below w.heap.size w W0) := ⟨by rw [hW0]; exact hbl _ _⟩
        have hz0 : w.heap.size + 1 < W0.heap.size := by rw [hW0]; simp
        have hz00 : w.heap.size < W0.heap.size := by omega
        have x2 : Hd (W0.cell? ⟨w.heap.size, 2, none⟩ = some (.slice A1 n c1)) := ⟨by rw [hW0]; simp⟩
        have y2 : Hd (W0.cell? ⟨w.heap.size + 1, 2, none⟩ = some (.slice A2 n c2)) := ⟨by rw [hW0]; simp⟩
        have hW0' := Hd.mk hW0
        generalize hRR : decide (xout = yout) = RR
        have hRR' := Hd.mk hRR
        clear hn hn2 hlen hl2 hW0 hbl hRR
        go_enter Tryz.func60, Tryz.ntmps60
        go_wp2
        rw [← hW0'.out]
        go_loopw [5] (fun s5 wr => ∃ k : Nat, k ≤ n ∧ s5 = .int .i64 k ∧ Hd (xout.take k = yout.take k) ∧ Hd (Below W0.heap.size W0 wr)) (fun s5 _ => n - (intOf s5).toNat)
        case atStart => exact ⟨0, Nat.zero_le _, rfl, ⟨by simp⟩, ⟨Below.refl _ _⟩⟩
        case round =>
          obtain ⟨k, hk, rfl, hall, hbr0⟩ := hrel
          have hbr := Hd.mk (hB0.out.then hbr0.out)
          have x2w := (bat hbr0.out w.heap.size hz00 2).trans x2.out
          have y2w := (bat hbr0.out (w.heap.size + 1) hz0 2).trans y2.out
          by_cases hlt : k < n
          · obtain ⟨b, off, cs, hA, hbl, hk1, hat⟩ := hv0.out.in0 hbr.out k (by have := hn'.out; omega)
            cases hA
            cases hk1
            have g0 := hat 0 _ rfl
            simp at g0
            clear hat
            obtain ⟨b2, off2, cs, hA, hbl2, hk1, hat⟩ := hu0.out.in0 hbr.out k (by have := hn2'.out; omega)
            cases hA
            cases hk1
            have f0 := hat 0 _ rfl
            simp at f0
            clear hat
            have hz : (k : Int) < (n : Int) := by omega
            have hzz : (0 : Int) ≤ (k : Int) := by omega
            by_cases he : xout[k]'(by have := hn'.out; omega) = yout[k]'(by have := hn2'.out; omega)
            · have ht := Hd.mk (take_eq hall.out (by have := hn'.out; omega) (by have := hn2'.out; omega) he)
              generalize xout[k]'_ = x at *
              subst he
              go_wp2
              go_quiet (fail)
              go_wp2
              go_roundw
              case rel => exact ⟨k + 1, by omega, by go_num, ht, ⟨pw_drewN hbr0.out _⟩⟩
              case measure => simp [intOf]; omega
            · have hne := Hd.mk (el_ne _ _ he)
              have hv : RR = false := by rw [← hRR'.out, decide_eq_false hne.out]
              subst hv
              have d := bneT he
              generalize xout[k]'_ = x at *
              generalize yout[k]'_ = y at *
              clear he
              go_wp2
              go_quiet (fail)
              go_wp2
              go_ret
              exact ⟨by simp, pw_drewN hbr.out _⟩
          · have e : k = n := by omega
            subst e
            have hv : RR = true := by rw [← hRR'.out, decide_eq_true (take_all hall.out hn'.out hn2'.out)]
            subst hv
            go_wp2
            go_ret
            exact ⟨by simp, hbr.out⟩
end Go.Proofs.YtkcgejbnhpccdaaGreat
