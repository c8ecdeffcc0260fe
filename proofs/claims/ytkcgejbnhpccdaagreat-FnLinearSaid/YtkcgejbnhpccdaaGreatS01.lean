import Derived.Test.YtkcgejbnhpccdaaGreatT51
import Derived.Test.YtkcgejbnhpccdaaGreatT52
import Derived.Test.YtkcgejbnhpccdaaGreatT53
set_option linter.unusedSimpArgs false
set_option linter.unusedVariables false
namespace Go.Proofs.YtkcgejbnhpccdaaGreat
open Go.RowKit
set_option maxRecDepth 40000 in
set_option maxHeartbeats 8000000 in
theorem f_Linear (v : Value) (xs : List Int) (w : World) (hv : Rd lw 1 KB w v xs) : Calls Tryz.prog 9 #[v] w (RetT8 w) := by
  obtain ⟨A, c, rfl, h1, h2, h3, h4⟩ := hv
  have hlw : (xs.length : Int) ≤ 9223372036854775807 := by unfold lw at h2; omega
  have hbig := fun W => l_big A xs.length c W hlw
  by_cases hs : xs.length ≤ 1048576
  case neg =>
    have hgt : decide ((1048576 : Int) < xs.length) = true := by simp; omega
    rw [hgt] at hbig
    clear h4
    go_enter Tryz.func9, Tryz.ntmps9
    go_wp2_with fail
    refine (hbig _).mono ?_; rintro e w1 ⟨rfl, rfl⟩
    go_wp2
    go_ret
    exact ⟨rfl, Below.refl _ _⟩
  have hgt : decide ((1048576 : Int) < xs.length) = false := by simp; omega
  rw [hgt] at hbig
  have hv : Rd lm 1 KB w (.slice A xs.length c) xs := ⟨A, c, rfl, h1, hs, h3, h4⟩
  clear h1 h2 h3 h4 hlw hgt
  have hp := s_DrawFirstBad _ xs w hv
  clear hv
  go_enter Tryz.func9, Tryz.ntmps9
  go_wp2_with fail
  refine (hbig _).mono ?_; rintro e w0 ⟨rfl, rfl⟩
  go_wp2_with fail
  refine hp.mono ?_; rintro e w1 ⟨l, Al, cl, x, A1, c1, A2, c2, rfl, ⟨hn2, hn7⟩, hrl, hms, ra, ro, hb1⟩
  rw [show (oraV x A1 c1 A2 c2).toArray = #[.int .i64 x.func, .slice A1 x.args.length c1, .string x.mem, .int .i64 x.want.code, .int .i64 x.want.value, .slice A2 x.want.out.length c2, .string x.want.mem, .int .i64 x.want.steps] from rfl]
  have hk1 := Hd.mk (show KOracle lm w1 x [.int .i64 x.func, .slice A1 x.args.length c1, .string x.mem, .int .i64 x.want.code, .int .i64 x.want.value, .slice A2 x.want.out.length c2, .string x.want.mem, .int .i64 x.want.steps] from ⟨_, _, rfl, ra, ro⟩)
  have hrl' := Hd.mk hrl
  have hms' : x.mem.size ≤ 1048576 := by omega
  obtain ⟨W1, hW1⟩ : ∃ W1 : World, W1 = w1.alloc (.cells #[.int .i64 x.func, .slice A1 x.args.length c1, .string x.mem, .int .i64 x.want.code, .int .i64 x.want.value, .slice A2 x.want.out.length c2, .string x.want.mem, .int .i64 x.want.steps] 48) := ⟨_, rfl⟩
  have hBW : Below w1.heap.size w1 W1 := by rw [hW1]; exact (Below.refl w1.heap.size w1).al (Nat.le_refl _) _
  have ho1 := Hd.mk (show W1.heap[w1.heap.size]? = some (.cells #[.int .i64 x.func, .slice A1 x.args.length c1, .string x.mem, .int .i64 x.want.code, .int .i64 x.want.value, .slice A2 x.want.out.length c2, .string x.want.mem, .int .i64 x.want.steps] 48 (0, 0)) by rw [hW1]; exact heap_new _ _ _ _ rfl)
  have hp := c_FirstBad (.slice Al l.length cl) l x [.int .i64 x.func, .slice A1 x.args.length c1, .string x.mem, .int .i64 x.want.code, .int .i64 x.want.value, .slice A2 x.want.out.length c2, .string x.want.mem, .int .i64 x.want.steps] W1 (hrl.mv hBW) (KM.mv hk1.out hBW) hms'
  have hB1 := Hd.mk (hb1.then hBW)
  have hBW' := Hd.mk hBW
  have hW1' := Hd.mk hW1
  clear hrl ra ro hb1 hBW hW1
  go_wp2_with fail
  rw [← hW1'.out]
  refine hp.mono ?_; rintro e w2 ⟨rfl, hb2⟩
  have ho2 := Hd.mk ((hb2.block _ (Array.getElem?_eq_some_iff.1 ho1.out).1).trans ho1.out)
  have h02 := hBW'.out.then hb2
  have hB2 := Hd.mk (hB1.out.then hb2)
  have hp := s_FirstBad (.slice Al l.length cl) l x [.int .i64 x.func, .slice A1 x.args.length c1, .string x.mem, .int .i64 x.want.code, .int .i64 x.want.value, .slice A2 x.want.out.length c2, .string x.want.mem, .int .i64 x.want.steps] w2 (hrl'.out.mv h02) (KM.mv hk1.out h02) hms'
  have n0 := (row_facts ho2.out).1 0
  have n1 := (row_facts ho2.out).1 1
  have n2 := (row_facts ho2.out).1 2
  have n3 := (row_facts ho2.out).1 3
  have n4 := (row_facts ho2.out).1 4
  have n5 := (row_facts ho2.out).1 5
  have n6 := (row_facts ho2.out).1 6
  have n7 := (row_facts ho2.out).1 7
  simp at n0 n1 n2 n3 n4 n5 n6 n7
  clear hb2
  have h02' := Hd.mk h02
  clear h02
  go_wp2_with fail
  refine hp.mono ?_; rintro e w3 ⟨rfl, hb3⟩
  have ho3 := Hd.mk ((hb3.block _ (Array.getElem?_eq_some_iff.1 ho2.out).1).trans ho2.out)
  have h03 := Hd.mk (h02'.out.then hb3)
  have hB3 := Hd.mk (hB2.out.then hb3)
  have hHk := Hd.mk fun (k : Nat) (hk : k < l.length) W (cs : List Value) (hW : Below w1.heap.size w1 W) (hm : KMod lm W (l[k]'hk) cs) => (show Calls Tryz.prog 22 #[.agg cs.toArray, .agg #[.int .i64 x.func, .slice A1 x.args.length c1, .string x.mem, .int .i64 x.want.code, .int .i64 x.want.value, .slice A2 x.want.out.length c2, .string x.want.mem, .int .i64 x.want.steps]] W (Ret (.bool (fbF l x k)) W) by rw [fbF_at l x k hk]; exact c_Holds (l[k]'hk) cs x [.int .i64 x.func, .slice A1 x.args.length c1, .string x.mem, .int .i64 x.want.code, .int .i64 x.want.value, .slice A2 x.want.out.length c2, .string x.want.mem, .int .i64 x.want.steps] W hm (KM.mv hk1.out hW) hms')
  have hd1 : ((fbR l x).1 != (fbR l x).1) = false := by simp
  have hd2 : ((fbR l x).2 != (fbR l x).2) = false := by simp
  have he1 : ((fbR l x).1 == (fbR l x).1) = true := by simp
  have he2 : ((fbR l x).2 == (fbR l x).2) = true := by simp
  clear hb3 n0 n1 n2 n3 n4 n5 n6 n7
  have hfl := Hd.mk (fb_lin (fbF l x) l.length)
  obtain ⟨pi, hpi⟩ : ∃ pi, pi = (fbR l x).1 := ⟨_, rfl⟩
  obtain ⟨pc, hpc⟩ : ∃ pc, pc = (fbR l x).2 := ⟨_, rfl⟩
  have hpi' := Hd.mk (show pi = (fbN (fbF l x) l.length).1 from hpi)
  rw [← hpi] at hd1 he1 ⊢
  rw [← hpc] at hd2 he2 ⊢
  clear hpi hpc
  have hwn : IntKind.i64.wrap ((l.length : Int) - 1) = (l.length : Int) - 1 := IntWalk.i64_in _ (by omega)
  have hgo := Hd.mk fun (k : Nat) (hk : k < l.length) (wr : World) (hbr : Below w3.heap.size w3 wr) => (show ∃ b off u, Al = some ⟨b, off, none⟩ ∧ b < wr.heap.size ∧ wr.cell? ⟨b, off + k, none⟩ = some u ∧ (∀ W, Below wr.heap.size wr W → Calls Tryz.prog 22 #[.agg #[u], .agg #[.int .i64 x.func, .slice A1 x.args.length c1, .string x.mem, .int .i64 x.want.code, .int .i64 x.want.value, .slice A2 x.want.out.length c2, .string x.want.mem, .int .i64 x.want.steps]] W (Ret (.bool (fbF l x k)) W)) ∧ u.oneCell' = true from by
    have h0r := h03.out.then hbr
    obtain ⟨b, off, cs, hA, hbl, ⟨u, rfl, hu⟩, hat⟩ := (hrl'.out.mv h0r).in0 (Below.refl _ _) k hk
    have g0 := hat 0 _ rfl
    simp at g0
    refine ⟨b, off, u, hA, hbl, g0, fun W hS => hHk.out k hk W [u] (h0r.then hS) (KM.mv ⟨u, rfl, hu⟩ hS), ?_⟩
    obtain ⟨A', c', rfl, -, -, -⟩ := hu.sm
    rfl)
  go_wp2
  go_loopw [9, 10] (fun s9 s10 wr => ∃ (j fi : Nat), j ≤ l.length ∧ fi ≤ l.length ∧ s9 = .int .i64 fi ∧ s10 = .int .i64 ((j : Int) - 1) ∧ Hd (Below w3.heap.size w3 wr) ∧ Hd ((∀ t, j ≤ t → t < fi → fbF l x t = true) ∧ (fi < l.length → j ≤ fi ∧ fbF l x fi = false))) (fun _ s10 _ => (intOf s10 + 1).toNat)
  case atStart => exact ⟨l.length, l.length, Nat.le_refl _, Nat.le_refl _, rfl, rfl, ⟨Below.refl _ _⟩, ⟨fun t h1 h2 => by omega, fun h => absurd h (Nat.lt_irrefl _)⟩⟩
  case round =>
    obtain ⟨j, fi, hj, hfi, rfl, rfl, hbr, hst⟩ := hrel
    by_cases hj0 : 0 < j
    · obtain ⟨k, rfl⟩ : ∃ k, j = k + 1 := ⟨j - 1, by omega⟩
      rw [show ((k + 1 : Nat) : Int) - 1 = (k : Int) by omega]
      obtain ⟨b, off, u, hA, hbl, g0, hH, h1u⟩ := hgo.out k (by omega) wr hbr.out
      subst hA
      have hob := (hbr.out.block _ (Array.getElem?_eq_some_iff.1 ho3.out).1).trans ho3.out
      have hly := (Array.getElem?_eq_some_iff.1 hob).1
      have y := row_facts hob
      have y0 := y.1 0
      have y1 := y.1 1
      have y2 := y.1 2
      have y3 := y.1 3
      have y4 := y.1 4
      have y5 := y.1 5
      have y6 := y.1 6
      have y7 := y.1 7
      simp at y0 y1 y2 y3 y4 y5 y6 y7
      clear y hob
      have q1 : (0 : Int) ≤ (k : Int) := by omega
      have q2 : (k : Int) < (l.length : Int) := by omega
      have q3 : k < l.length := by omega
      have q4 : decide ((k : Int) ≥ 0) = true := by simp <;> omega
      have hwk : IntKind.i64.wrap ((k : Int) - 1) = (k : Int) - 1 := IntWalk.i64_in _ (by omega)
      have hB3r := hbr
      cases hf : fbF l x k with
      | true =>
        rw [hf] at hH
        have hst' := Hd.mk hst.out
        have hf' := Hd.mk hf
        clear hst hf hj0 hgo
        go_wp2
        refine wp_region_bel (by kernel_rfl) (by kernel_rfl) ?_
        simp only [List.toList_toArray]
        repeat' first
          | (refine seq_val (by rfl) (by intro W hS; have s0 := (bat hS w1.heap.size hly 0).trans y0; have s1 := (bat hS w1.heap.size hly 1).trans y1; have s2 := (bat hS w1.heap.size hly 2).trans y2; have s3 := (bat hS w1.heap.size hly 3).trans y3; have s4 := (bat hS w1.heap.size hly 4).trans y4; have s5 := (bat hS w1.heap.size hly 5).trans y5; have s6 := (bat hS w1.heap.size hly 6).trans y6; have s7 := (bat hS w1.heap.size hly 7).trans y7; have e0 := (bat hS b hbl _).trans g0; go_simp; first | done | rfl) ?_; simp only [Act.put, List.setIfInBounds_toArray, List.set_cons_zero, List.set_cons_succ])
          | (refine seq_skip (by rfl) ?_; simp only [Act.put, List.setIfInBounds_toArray, List.set_cons_zero, List.set_cons_succ])
          | (refine seq_ret 22 _ (by rfl) (by intro W hS; have s0 := (bat hS w1.heap.size hly 0).trans y0; have s1 := (bat hS w1.heap.size hly 1).trans y1; have s2 := (bat hS w1.heap.size hly 2).trans y2; have s3 := (bat hS w1.heap.size hly 3).trans y3; have s4 := (bat hS w1.heap.size hly 4).trans y4; have s5 := (bat hS w1.heap.size hly 5).trans y5; have s6 := (bat hS w1.heap.size hly 6).trans y6; have s7 := (bat hS w1.heap.size hly 7).trans y7; have e0 := (bat hS b hbl _).trans g0; go_simp; first | done | rfl) (fun W hS => hH W hS) ?_; simp only [Act.put, List.setIfInBounds_toArray, List.set_cons_zero, List.set_cons_succ])
          | fail
        refine seq_nil (fun W hS => ?_)
        have s0 := (bat hS w1.heap.size hly 0).trans y0
        have s1 := (bat hS w1.heap.size hly 1).trans y1
        have s2 := (bat hS w1.heap.size hly 2).trans y2
        have s3 := (bat hS w1.heap.size hly 3).trans y3
        have s4 := (bat hS w1.heap.size hly 4).trans y4
        have s5 := (bat hS w1.heap.size hly 5).trans y5
        have s6 := (bat hS w1.heap.size hly 6).trans y6
        have s7 := (bat hS w1.heap.size hly 7).trans y7
        have e0 := (bat hS b hbl _).trans g0
        have hbw := Hd.mk (hB3r.out.then hS)
        clear hS
        go_wp2
        go_roundw
        case rel => exact ⟨k, fi, by omega, hfi, rfl, by first | rfl | simp, hbw, ⟨fun t h1 h2 => by by_cases e : t = k; rw [e]; exact hf'.out; exact hst'.out.1 t (by omega) h2, fun h => by have := hst'.out.2 h; exact ⟨by omega, this.2⟩⟩⟩
        case measure => simp [intOf] <;> omega
      | false =>
        rw [hf] at hH
        have hst' := Hd.mk hst.out
        have hf' := Hd.mk hf
        clear hst hf hj0 hgo
        go_wp2
        refine wp_region_bel (by kernel_rfl) (by kernel_rfl) ?_
        simp only [List.toList_toArray]
        repeat' first
          | (refine seq_val (by rfl) (by intro W hS; have s0 := (bat hS w1.heap.size hly 0).trans y0; have s1 := (bat hS w1.heap.size hly 1).trans y1; have s2 := (bat hS w1.heap.size hly 2).trans y2; have s3 := (bat hS w1.heap.size hly 3).trans y3; have s4 := (bat hS w1.heap.size hly 4).trans y4; have s5 := (bat hS w1.heap.size hly 5).trans y5; have s6 := (bat hS w1.heap.size hly 6).trans y6; have s7 := (bat hS w1.heap.size hly 7).trans y7; have e0 := (bat hS b hbl _).trans g0; go_simp; first | done | rfl) ?_; simp only [Act.put, List.setIfInBounds_toArray, List.set_cons_zero, List.set_cons_succ])
          | (refine seq_skip (by rfl) ?_; simp only [Act.put, List.setIfInBounds_toArray, List.set_cons_zero, List.set_cons_succ])
          | (refine seq_ret 22 _ (by rfl) (by intro W hS; have s0 := (bat hS w1.heap.size hly 0).trans y0; have s1 := (bat hS w1.heap.size hly 1).trans y1; have s2 := (bat hS w1.heap.size hly 2).trans y2; have s3 := (bat hS w1.heap.size hly 3).trans y3; have s4 := (bat hS w1.heap.size hly 4).trans y4; have s5 := (bat hS w1.heap.size hly 5).trans y5; have s6 := (bat hS w1.heap.size hly 6).trans y6; have s7 := (bat hS w1.heap.size hly 7).trans y7; have e0 := (bat hS b hbl _).trans g0; go_simp; first | done | rfl) (fun W hS => hH W hS) ?_; simp only [Act.put, List.setIfInBounds_toArray, List.set_cons_zero, List.set_cons_succ])
          | fail
        refine seq_nil (fun W hS => ?_)
        have s0 := (bat hS w1.heap.size hly 0).trans y0
        have s1 := (bat hS w1.heap.size hly 1).trans y1
        have s2 := (bat hS w1.heap.size hly 2).trans y2
        have s3 := (bat hS w1.heap.size hly 3).trans y3
        have s4 := (bat hS w1.heap.size hly 4).trans y4
        have s5 := (bat hS w1.heap.size hly 5).trans y5
        have s6 := (bat hS w1.heap.size hly 6).trans y6
        have s7 := (bat hS w1.heap.size hly 7).trans y7
        have e0 := (bat hS b hbl _).trans g0
        have hbw := Hd.mk (hB3r.out.then hS)
        clear hS
        go_wp2
        go_roundw
        case rel => exact ⟨k, k, by omega, by omega, rfl, by first | rfl | simp, hbw, ⟨fun t h1 h2 => by omega, fun _ => ⟨Nat.le_refl _, hf'.out⟩⟩⟩
        case measure => simp [intOf] <;> omega
    obtain rfl : j = 0 := by omega
    have hst1 := Hd.mk hst.out
    clear hst
    obtain ⟨wo, rfl⟩ : ∃ wo : World, wo = wr := ⟨_, rfl⟩
    go_wp2
    go_loopw [11] (fun s11 wq => ∃ k : Nat, fi ≤ k ∧ k ≤ l.length ∧ s11 = .int .i64 k ∧ Hd (Below w3.heap.size w3 wq) ∧ Hd (∀ t, fi ≤ t → t < k → fbF l x t = false)) (fun s11 _ => l.length - (intOf s11).toNat)
    case atStart => exact ⟨fi, Nat.le_refl _, hfi, rfl, hbr, ⟨fun t h1 h2 => by omega⟩⟩
    case round =>
      obtain ⟨k, hk1, hk2, rfl, hbq, hal⟩ := hrel
      clear hbr
      by_cases hkl : k < l.length
      · obtain ⟨b, off, u, hA, hbl, g0, hH, h1u⟩ := hgo.out k hkl wr hbq.out
        subst hA
        have hob := (hbq.out.block _ (Array.getElem?_eq_some_iff.1 ho3.out).1).trans ho3.out
        have hly := (Array.getElem?_eq_some_iff.1 hob).1
        have y := row_facts hob
        have y0 := y.1 0
        have y1 := y.1 1
        have y2 := y.1 2
        have y3 := y.1 3
        have y4 := y.1 4
        have y5 := y.1 5
        have y6 := y.1 6
        have y7 := y.1 7
        simp at y0 y1 y2 y3 y4 y5 y6 y7
        clear y hob
        have q1 : (0 : Int) ≤ (k : Int) := by omega
        have q2 : (k : Int) < (l.length : Int) := by omega
        have hwk : IntKind.i64.wrap ((k : Int) + 1) = (k : Int) + 1 := IntWalk.i64_in _ (by omega)
        have hB3r := hbq
        cases hf : fbF l x k with
        | true =>
          rw [hf] at hH
          clear hal hf hgo hst1 hfl
          go_wp2
          refine wp_region_bel (by kernel_rfl) (by kernel_rfl) ?_
          simp only [List.toList_toArray]
          repeat' first
            | (refine seq_val (by rfl) (by intro W hS; have s0 := (bat hS w1.heap.size hly 0).trans y0; have s1 := (bat hS w1.heap.size hly 1).trans y1; have s2 := (bat hS w1.heap.size hly 2).trans y2; have s3 := (bat hS w1.heap.size hly 3).trans y3; have s4 := (bat hS w1.heap.size hly 4).trans y4; have s5 := (bat hS w1.heap.size hly 5).trans y5; have s6 := (bat hS w1.heap.size hly 6).trans y6; have s7 := (bat hS w1.heap.size hly 7).trans y7; have e0 := (bat hS b hbl _).trans g0; go_simp; first | done | rfl) ?_; simp only [Act.put, List.setIfInBounds_toArray, List.set_cons_zero, List.set_cons_succ])
            | (refine seq_skip (by rfl) ?_; simp only [Act.put, List.setIfInBounds_toArray, List.set_cons_zero, List.set_cons_succ])
            | (refine seq_ret 22 _ (by rfl) (by intro W hS; have s0 := (bat hS w1.heap.size hly 0).trans y0; have s1 := (bat hS w1.heap.size hly 1).trans y1; have s2 := (bat hS w1.heap.size hly 2).trans y2; have s3 := (bat hS w1.heap.size hly 3).trans y3; have s4 := (bat hS w1.heap.size hly 4).trans y4; have s5 := (bat hS w1.heap.size hly 5).trans y5; have s6 := (bat hS w1.heap.size hly 6).trans y6; have s7 := (bat hS w1.heap.size hly 7).trans y7; have e0 := (bat hS b hbl _).trans g0; go_simp; first | done | rfl) (fun W hS => hH W hS) ?_; simp only [Act.put, List.setIfInBounds_toArray, List.set_cons_zero, List.set_cons_succ])
            | fail
          refine seq_nil (fun W hS => ?_)
          have s0 := (bat hS w1.heap.size hly 0).trans y0
          have s1 := (bat hS w1.heap.size hly 1).trans y1
          have s2 := (bat hS w1.heap.size hly 2).trans y2
          have s3 := (bat hS w1.heap.size hly 3).trans y3
          have s4 := (bat hS w1.heap.size hly 4).trans y4
          have s5 := (bat hS w1.heap.size hly 5).trans y5
          have s6 := (bat hS w1.heap.size hly 6).trans y6
          have s7 := (bat hS w1.heap.size hly 7).trans y7
          have e0 := (bat hS b hbl _).trans g0
          have hbw := Hd.mk (hB3.out.then (hB3r.out.then hS))
          clear hS
          go_wp2
          (try simp only [Exit.inBlock, Exit.then])
          refine bodyPost_ret (v := .bool true) (by simp [results, Tryz.results9, go_sem]) rfl ?_
          exact ⟨rfl, hbw.out⟩
        | false =>
          rw [hf] at hH
          have hal' := Hd.mk hal.out
          have hf' := Hd.mk hf
          clear hal hf hgo
          go_wp2
          refine wp_region_bel (by kernel_rfl) (by kernel_rfl) ?_
          simp only [List.toList_toArray]
          repeat' first
            | (refine seq_val (by rfl) (by intro W hS; have s0 := (bat hS w1.heap.size hly 0).trans y0; have s1 := (bat hS w1.heap.size hly 1).trans y1; have s2 := (bat hS w1.heap.size hly 2).trans y2; have s3 := (bat hS w1.heap.size hly 3).trans y3; have s4 := (bat hS w1.heap.size hly 4).trans y4; have s5 := (bat hS w1.heap.size hly 5).trans y5; have s6 := (bat hS w1.heap.size hly 6).trans y6; have s7 := (bat hS w1.heap.size hly 7).trans y7; have e0 := (bat hS b hbl _).trans g0; go_simp; first | done | rfl) ?_; simp only [Act.put, List.setIfInBounds_toArray, List.set_cons_zero, List.set_cons_succ])
            | (refine seq_skip (by rfl) ?_; simp only [Act.put, List.setIfInBounds_toArray, List.set_cons_zero, List.set_cons_succ])
            | (refine seq_ret 22 _ (by rfl) (by intro W hS; have s0 := (bat hS w1.heap.size hly 0).trans y0; have s1 := (bat hS w1.heap.size hly 1).trans y1; have s2 := (bat hS w1.heap.size hly 2).trans y2; have s3 := (bat hS w1.heap.size hly 3).trans y3; have s4 := (bat hS w1.heap.size hly 4).trans y4; have s5 := (bat hS w1.heap.size hly 5).trans y5; have s6 := (bat hS w1.heap.size hly 6).trans y6; have s7 := (bat hS w1.heap.size hly 7).trans y7; have e0 := (bat hS b hbl _).trans g0; go_simp; first | done | rfl) (fun W hS => hH W hS) ?_; simp only [Act.put, List.setIfInBounds_toArray, List.set_cons_zero, List.set_cons_succ])
            | fail
          refine seq_nil (fun W hS => ?_)
          have s0 := (bat hS w1.heap.size hly 0).trans y0
          have s1 := (bat hS w1.heap.size hly 1).trans y1
          have s2 := (bat hS w1.heap.size hly 2).trans y2
          have s3 := (bat hS w1.heap.size hly 3).trans y3
          have s4 := (bat hS w1.heap.size hly 4).trans y4
          have s5 := (bat hS w1.heap.size hly 5).trans y5
          have s6 := (bat hS w1.heap.size hly 6).trans y6
          have s7 := (bat hS w1.heap.size hly 7).trans y7
          have e0 := (bat hS b hbl _).trans g0
          have hbw := Hd.mk (hB3r.out.then hS)
          clear hS
          go_wp2
          go_roundw
          case rel => exact ⟨k + 1, by omega, by omega, by go_num, hbw, ⟨fun t h1 h2 => by by_cases e : t = k; rw [e]; exact hf'.out; exact hal'.out t h1 (by omega)⟩⟩
          case measure => simp [intOf] <;> omega
      obtain rfl : k = l.length := by omega
      have hbf := hB3.out.then hbq.out
      have hlin := hfl.out fi (by omega) hfi (fun t ht => by
        by_cases e : t < fi
        · rw [hst1.out.1 t (Nat.zero_le _) e]; simp [e]
        · rw [hal.out t (by omega) ht]; simp [e])
      rw [← hpi'.out] at hlin
      have hl2 : ¬ (l.length : Int) < 2 := by omega
      have hl2d : decide ((l.length : Int) < 2) = false := by simp; omega
      have hlin' := Hd.mk hlin
      have hbf' := Hd.mk hbf
      clear hlin hbf hal hst1 hgo hfl hHk hpi' hbq
      by_cases h0 : fi = 0
      · have e1 := hlin'.out.1 (.inl h0)
        subst h0
        subst e1
        go_wp2
        go_ret
        exact ⟨rfl, hbf'.out⟩
      by_cases hn : fi = l.length
      · have e1 := hlin'.out.1 (.inr (.inl hn))
        have k0 : ((fi : Int) == 0) = false := by simpa using h0
        have k1 : ((fi : Int) == (l.length : Int)) = true := by simp [hn]
        subst e1
        clear hn h0
        go_wp2
        go_ret
        exact ⟨rfl, hbf'.out⟩
      · have e1 := hlin'.out.2 (by omega)
        have k0 : ((fi : Int) == 0) = false := by simpa using h0
        have k1 : ((fi : Int) == (l.length : Int)) = false := by simp; omega
        have k2 : ((fi : Int) == (fi : Int)) = true := by simp
        subst e1
        clear hn h0
        go_wp2
        go_ret
        exact ⟨rfl, hbf'.out⟩
end Go.Proofs.YtkcgejbnhpccdaaGreat
