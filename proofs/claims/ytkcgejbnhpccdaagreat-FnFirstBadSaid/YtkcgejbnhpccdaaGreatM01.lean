import Derived.Test.YtkcgejbnhpccdaaGreatT51
import Derived.Test.YtkcgejbnhpccdaaGreatT52
import Derived.Test.YtkcgejbnhpccdaaGreatT53
set_option linter.unusedSimpArgs false
set_option linter.unusedVariables false
namespace Go.Proofs.YtkcgejbnhpccdaaGreat
open Go.RowKit
set_option maxRecDepth 40000 in
set_option maxHeartbeats 8000000 in
theorem f_FirstBad (v : Value) (xs : List Int) (w : World) (hv : Rd lw 1 KB w v xs) : Calls Tryz.prog 8 #[v] w (RetT8 w) := by
  obtain ⟨A, c, rfl, h1, h2, h3, h4⟩ := hv
  have hlw : (xs.length : Int) ≤ 9223372036854775807 := by unfold lw at h2; omega
  have hbig := fun W => l_big A xs.length c W hlw
  by_cases hs : xs.length ≤ 1048576
  case neg =>
    have hgt : decide ((1048576 : Int) < xs.length) = true := by simp; omega
    rw [hgt] at hbig
    clear h4
    go_enter Tryz.func8, Tryz.ntmps8
    go_wp2_with fail
    refine (hbig _).mono ?_; rintro e w1 ⟨rfl, rfl⟩
    go_wp2
    go_ret
    exact ⟨rfl, Below.refl _ _⟩
  have hgt : decide ((1048576 : Int) < xs.length) = false := by simp; omega
  rw [hgt] at hbig
  have hv : Rd lm 1 KB w (.slice A xs.length c) xs := ⟨A, c, rfl, h1, hs, h3, h4⟩
  clear h1 h2 h3 h4 hlw hgt
  have hp := s_DrawFirstBad _ xs w hv
  clear hv
  go_enter Tryz.func8, Tryz.ntmps8
  go_wp2_with fail
  refine (hbig _).mono ?_; rintro e w0 ⟨rfl, rfl⟩
  go_wp2_with fail
  refine hp.mono ?_; rintro e w1 ⟨l, Al, cl, x, A1, c1, A2, c2, rfl, ⟨hn2, hn7⟩, hrl, hms, ra, ro, hb1⟩
  rw [show (oraV x A1 c1 A2 c2).toArray = #[.int .i64 x.func, .slice A1 x.args.length c1, .string x.mem, .int .i64 x.want.code, .int .i64 x.want.value, .slice A2 x.want.out.length c2, .string x.want.mem, .int .i64 x.want.steps] from rfl]
  have hk1 := Hd.mk (show KOracle lm w1 x [.int .i64 x.func, .slice A1 x.args.length c1, .string x.mem, .int .i64 x.want.code, .int .i64 x.want.value, .slice A2 x.want.out.length c2, .string x.want.mem, .int .i64 x.want.steps] from ⟨_, _, rfl, ra, ro⟩)
  have hrl' := Hd.mk hrl
  have hms' : x.mem.size ≤ 1048576 := by omega
  obtain ⟨W1, hW1⟩ : ∃ W1 : World, W1 = w1.alloc (.cells #[.int .i64 x.func, .slice A1 x.args.length c1, .string x.mem, .int .i64 x.want.code, .int .i64 x.want.value, .slice A2 x.want.out.length c2, .string x.want.mem, .int .i64 x.want.steps] 48) := ⟨_, rfl⟩
  have hBW : Below w1.heap.size w1 W1 := by rw [hW1]; exact (Below.refl w1.heap.size w1).al (Nat.le_refl _) _
  have ho1 := Hd.mk (show W1.heap[w1.heap.size]? = some (.cells #[.int .i64 x.func, .slice A1 x.args.length c1, .string x.mem, .int .i64 x.want.code, .int .i64 x.want.value, .slice A2 x.want.out.length c2, .string x.want.mem, .int .i64 x.want.steps] 48 (0, 0)) by rw [hW1]; exact heap_new _ _ _ _ rfl)
  have hp := c_FirstBad (.slice Al l.length cl) l x [.int .i64 x.func, .slice A1 x.args.length c1, .string x.mem, .int .i64 x.want.code, .int .i64 x.want.value, .slice A2 x.want.out.length c2, .string x.want.mem, .int .i64 x.want.steps] W1 (hrl.mv hBW) (KM.mv hk1.out hBW) hms'
  have hB1 := Hd.mk (hb1.then hBW)
  have hBW' := Hd.mk hBW
  have hW1' := Hd.mk hW1
  clear hrl ra ro hb1 hBW hW1
  go_wp2_with fail
  rw [← hW1'.out]
  refine hp.mono ?_; rintro e w2 ⟨rfl, hb2⟩
  have ho2 := Hd.mk ((hb2.block _ (Array.getElem?_eq_some_iff.1 ho1.out).1).trans ho1.out)
  have h02 := hBW'.out.then hb2
  have hB2 := Hd.mk (hB1.out.then hb2)
  have hp := s_FirstBad (.slice Al l.length cl) l x [.int .i64 x.func, .slice A1 x.args.length c1, .string x.mem, .int .i64 x.want.code, .int .i64 x.want.value, .slice A2 x.want.out.length c2, .string x.want.mem, .int .i64 x.want.steps] w2 (hrl'.out.mv h02) (KM.mv hk1.out h02) hms'
  have n0 := (row_facts ho2.out).1 0
  have n1 := (row_facts ho2.out).1 1
  have n2 := (row_facts ho2.out).1 2
  have n3 := (row_facts ho2.out).1 3
  have n4 := (row_facts ho2.out).1 4
  have n5 := (row_facts ho2.out).1 5
  have n6 := (row_facts ho2.out).1 6
  have n7 := (row_facts ho2.out).1 7
  simp at n0 n1 n2 n3 n4 n5 n6 n7
  clear hb2
  have h02' := Hd.mk h02
  clear h02
  go_wp2_with fail
  refine hp.mono ?_; rintro e w3 ⟨rfl, hb3⟩
  have ho3 := Hd.mk ((hb3.block _ (Array.getElem?_eq_some_iff.1 ho2.out).1).trans ho2.out)
  have h03 := Hd.mk (h02'.out.then hb3)
  have hB3 := Hd.mk (hB2.out.then hb3)
  have hHk := Hd.mk fun (k : Nat) (hk : k < l.length) W (cs : List Value) (hW : Below w1.heap.size w1 W) (hm : KMod lm W (l[k]'hk) cs) => (show Calls Tryz.prog 22 #[.agg cs.toArray, .agg #[.int .i64 x.func, .slice A1 x.args.length c1, .string x.mem, .int .i64 x.want.code, .int .i64 x.want.value, .slice A2 x.want.out.length c2, .string x.want.mem, .int .i64 x.want.steps]] W (Ret (.bool (fbF l x k)) W) by rw [fbF_at l x k hk]; exact c_Holds (l[k]'hk) cs x [.int .i64 x.func, .slice A1 x.args.length c1, .string x.mem, .int .i64 x.want.code, .int .i64 x.want.value, .slice A2 x.want.out.length c2, .string x.want.mem, .int .i64 x.want.steps] W hm (KM.mv hk1.out hW) hms')
  have hd1 : ((fbR l x).1 != (fbR l x).1) = false := by simp
  have hd2 : ((fbR l x).2 != (fbR l x).2) = false := by simp
  have he1 : ((fbR l x).1 == (fbR l x).1) = true := by simp
  have he2 : ((fbR l x).2 == (fbR l x).2) = true := by simp
  clear hb3 n0 n1 n2 n3 n4 n5 n6 n7
  by_cases hneg : (fbR l x).1 < 0
  · have hB3' := hB3.out
    clear hB3
    go_wp2
    (try simp only [Exit.inBlock, Exit.then])
    refine bodyPost_ret (v := .bool true) (by simp [results, Tryz.results8, go_sem]) rfl ?_
    exact ⟨rfl, hB3'⟩
  obtain ⟨r, c, hrc, hr0, hrn, hfr, hfr1, hcnt⟩ := fb_said (fbF l x) l.length (by have : (fbR l x).1 = (fbN (fbF l x) l.length).1 := rfl; omega)
  have hrc' : fbR l x = ((r : Int), (c : Int)) := hrc
  have hfacts := Hd.mk (And.intro hfr (And.intro hfr1 hcnt))
  rw [hrc'] at hneg hd1 hd2 he1 he2 ⊢
  clear hrc hrc' hfr hfr1 hcnt
  simp only at hneg hd1 hd2 he1 he2
  go_wp2
  have hwn : IntKind.i64.wrap ((l.length : Int) - 1) = (l.length : Int) - 1 := IntWalk.i64_in _ (by omega)
  go_loopw [9, 10] (fun s9 s10 wr => ∃ j : Nat, j ≤ 3 ∧ s9 = .int .i64 (2 + (j : Int)) ∧ s10 = .int .i64 ((2 ^ j : Nat) : Int) ∧ Hd (Below w3.heap.size w3 wr)) (fun _ s10 _ => 16 - (intOf s10).toNat)
  case atStart => exact ⟨0, by omega, rfl, rfl, ⟨Below.refl _ _⟩⟩
  case round =>
    obtain ⟨j, hj, rfl, rfl, hbr⟩ := hrel
    by_cases hlt : ((2 ^ j : Nat) : Int) < (l.length : Int) - 1
    · have hj2 : j ≤ 2 := by
        rcases (show j = 0 ∨ j = 1 ∨ j = 2 ∨ j = 3 by omega) with rfl | rfl | rfl | rfl <;> simp at hlt <;> omega
      have hp8 : (2 ^ j : Nat) ≤ 4 := by
        rcases (show j = 0 ∨ j = 1 ∨ j = 2 by omega) with rfl | rfl | rfl <;> decide
      have hp1 : 1 ≤ (2 ^ j : Nat) := Nat.one_le_two_pow
      have hw2 : IntKind.i64.wrap (2 * ((2 ^ j : Nat) : Int)) = ((2 ^ (j + 1) : Nat) : Int) := by rw [IntWalk.i64_in _ (by omega), Nat.pow_succ]; push_cast; omega
      have hw3 : IntKind.i64.wrap (2 + (j : Int) + 1) = 2 + ((j + 1 : Nat) : Int) := by rw [IntWalk.i64_in _ (by omega)]; omega
      have hps : (2 ^ (j + 1) : Nat) = 2 * 2 ^ j := by rw [Nat.pow_succ]; omega
      generalize hq : (2 ^ (j + 1) : Nat) = q at *
      generalize (2 ^ j : Nat) = p at *
      clear hfacts
      have hq' := Hd.mk hq
      have hps' := Hd.mk hps
      clear hq hps
      go_wp2
      go_roundw
      case rel => exact ⟨j + 1, by omega, rfl, by rw [hq'.out], hbr⟩
      case measure => have := hps'.out; simp [intOf]; omega
    · obtain ⟨hfr, hfr1, hcnt⟩ := hfacts.out
      have hc := hcnt j (by omega)
      have hob := (hbr.out.block _ (Array.getElem?_eq_some_iff.1 ho3.out).1).trans ho3.out
      have hly := (Array.getElem?_eq_some_iff.1 hob).1
      have y := row_facts hob
      have y0 := y.1 0
      have y1 := y.1 1
      have y2 := y.1 2
      have y3 := y.1 3
      have y4 := y.1 4
      have y5 := y.1 5
      have y6 := y.1 6
      have y7 := y.1 7
      simp at y0 y1 y2 y3 y4 y5 y6 y7
      have h0r := Hd.mk (h03.out.then hbr.out)
      have hBr := Hd.mk (hB3.out.then hbr.out)
      have hrr := hrl'.out.mv h0r.out
      have hrn' : r < l.length := by omega
      have hrm' : r - 1 < l.length := by omega
      obtain ⟨b, off, cs, hA, hbl, ⟨u, rfl, hu⟩, hat⟩ := hrr.in0 (Below.refl _ _) r hrn'
      cases hA
      have g0 := hat 0 _ rfl
      obtain ⟨b', off', cs, hA, hbl', ⟨u', rfl, hu'⟩, hat'⟩ := hrr.in0 (Below.refl _ _) (r - 1) hrm'
      cases hA
      have g1 := hat' 0 _ rfl
      simp at g0 g1
      have hc1 := fun W (hS : Below wr.heap.size wr W) => hHk.out r hrn' W [u] (h0r.out.then hS) (KM.mv ⟨u, rfl, hu⟩ hS)
      have hc2 := fun W (hS : Below wr.heap.size wr W) => hHk.out (r - 1) hrm' W [u'] (h0r.out.then hS) (KM.mv ⟨u', rfl, hu'⟩ hS)
      rw [hfr] at hc1
      rw [hfr1] at hc2
      obtain ⟨r1, hr1⟩ : ∃ r1, r = r1 + 1 := ⟨r - 1, by omega⟩
      have e1r : r - 1 = r1 := by omega
      rw [e1r] at g1
      have hwr : IntKind.i64.wrap ((r : Int) - 1) = (r1 : Int) := by rw [IntWalk.i64_in _ (by omega)]; omega
      have k1 : decide ((r : Int) > 0) = true := by simp <;> omega
      have k1b : decide ((0 : Int) < (r : Int)) = true := by simp <;> omega
      have k1c : decide (0 < r) = true := by simp <;> omega
      have k1' : (0 : Int) < (r : Int) := by omega
      have k2 : (r : Int) < (l.length : Int) := by omega
      have k2b : decide ((r : Int) < (l.length : Int)) = true := by simp <;> omega
      have k2c : decide (r < l.length) = true := by simp <;> omega
      have k3 : (0 : Int) ≤ (r : Int) := by omega
      have k5 : (r1 : Int) < (l.length : Int) := by omega
      have k6 : (0 : Int) ≤ (r1 : Int) := by omega
      have k7 : r1 < l.length := by omega
      have k8 : decide ((c : Int) ≤ 2 + (j : Int)) = true := by simp <;> omega
      clear hr1 e1r
      clear hat hat' hrr hob y hcnt hfr hfr1 hfacts hu hu' hc hbr
      go_wp2
      clear hlt hj
      refine wp_region_bel (by kernel_rfl) (by kernel_rfl) ?_
      simp only [List.toList_toArray]
      repeat' first
        | (refine seq_val (by rfl) (by intro W hS; have s0 := (bat hS w1.heap.size hly 0).trans y0; have s1 := (bat hS w1.heap.size hly 1).trans y1; have s2 := (bat hS w1.heap.size hly 2).trans y2; have s3 := (bat hS w1.heap.size hly 3).trans y3; have s4 := (bat hS w1.heap.size hly 4).trans y4; have s5 := (bat hS w1.heap.size hly 5).trans y5; have s6 := (bat hS w1.heap.size hly 6).trans y6; have s7 := (bat hS w1.heap.size hly 7).trans y7; have e0 := (bat hS b hbl _).trans g0; have e1 := (bat hS b hbl _).trans g1; go_simp; first | done | rfl) ?_; simp only [Act.put, List.setIfInBounds_toArray, List.set_cons_zero, List.set_cons_succ])
        | (refine seq_skip (by rfl) ?_; simp only [Act.put, List.setIfInBounds_toArray, List.set_cons_zero, List.set_cons_succ])
        | (refine seq_ret 22 _ (by rfl) (by intro W hS; have s0 := (bat hS w1.heap.size hly 0).trans y0; have s1 := (bat hS w1.heap.size hly 1).trans y1; have s2 := (bat hS w1.heap.size hly 2).trans y2; have s3 := (bat hS w1.heap.size hly 3).trans y3; have s4 := (bat hS w1.heap.size hly 4).trans y4; have s5 := (bat hS w1.heap.size hly 5).trans y5; have s6 := (bat hS w1.heap.size hly 6).trans y6; have s7 := (bat hS w1.heap.size hly 7).trans y7; have e0 := (bat hS b hbl _).trans g0; have e1 := (bat hS b hbl _).trans g1; go_simp; first | done | rfl) (fun W hS => hc1 W hS) ?_; simp only [Act.put, List.setIfInBounds_toArray, List.set_cons_zero, List.set_cons_succ])
        | (refine seq_ret 22 _ (by rfl) (by intro W hS; have s0 := (bat hS w1.heap.size hly 0).trans y0; have s1 := (bat hS w1.heap.size hly 1).trans y1; have s2 := (bat hS w1.heap.size hly 2).trans y2; have s3 := (bat hS w1.heap.size hly 3).trans y3; have s4 := (bat hS w1.heap.size hly 4).trans y4; have s5 := (bat hS w1.heap.size hly 5).trans y5; have s6 := (bat hS w1.heap.size hly 6).trans y6; have s7 := (bat hS w1.heap.size hly 7).trans y7; have e0 := (bat hS b hbl _).trans g0; have e1 := (bat hS b hbl _).trans g1; go_simp; first | done | rfl) (fun W hS => hc2 W hS) ?_; simp only [Act.put, List.setIfInBounds_toArray, List.set_cons_zero, List.set_cons_succ])
        | fail
      refine seq_nil (fun W hS => ?_)
      have s0 := (bat hS w1.heap.size hly 0).trans y0
      have s1 := (bat hS w1.heap.size hly 1).trans y1
      have s2 := (bat hS w1.heap.size hly 2).trans y2
      have s3 := (bat hS w1.heap.size hly 3).trans y3
      have s4 := (bat hS w1.heap.size hly 4).trans y4
      have s5 := (bat hS w1.heap.size hly 5).trans y5
      have s6 := (bat hS w1.heap.size hly 6).trans y6
      have s7 := (bat hS w1.heap.size hly 7).trans y7
      have e0 := (bat hS b hbl _).trans g0
      have e1 := (bat hS b hbl _).trans g1
      have hBf := hBr.out.then hS
      go_wp2
      go_ret
      exact ⟨rfl, hBf⟩
end Go.Proofs.YtkcgejbnhpccdaaGreat
