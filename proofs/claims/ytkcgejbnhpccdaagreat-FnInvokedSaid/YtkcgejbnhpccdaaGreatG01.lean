import Derived.Test.YtkcgejbnhpccdaaGreatP46
import Derived.Test.YtkcgejbnhpccdaaGreatP31
set_option linter.unusedSimpArgs false
set_option linter.unusedVariables false
namespace Go.Proofs.YtkcgejbnhpccdaaGreat
open Go.RowKit
set_option maxRecDepth 40000 in
set_option maxHeartbeats 8000000 in
theorem f_Invoked (v : Value) (xs : List Int) (w : World) (hv : Rd lw 1 KB w v xs) : Calls Tryz.prog 6 #[v] w (RetT8 w) := by
  obtain ⟨A, c, rfl, h1, h2, h3, h4⟩ := hv
  have hlw : (xs.length : Int) ≤ 9223372036854775807 := by unfold lw at h2; omega
  have hbig := fun W => l_big A xs.length c W hlw
  by_cases hs : xs.length ≤ 1048576
  case neg =>
    have hgt : decide ((1048576 : Int) < xs.length) = true := by simp; omega
    rw [hgt] at hbig
    clear h4
    go_enter Tryz.func6, Tryz.ntmps6
    go_wp2_with fail
    refine (hbig _).mono ?_; rintro e w1 ⟨rfl, rfl⟩
    go_wp2
    go_ret
    exact ⟨rfl, Below.refl _ _⟩
  have hgt : decide ((1048576 : Int) < xs.length) = false := by simp; omega
  rw [hgt] at hbig
  have hv : Rd lm 1 KB w (.slice A xs.length c) xs := ⟨A, c, rfl, h1, hs, h3, h4⟩
  clear h1 h2 h3 h4 hlw hgt
  have hp := s_DrawInvoked _ xs w hv
  clear hv
  go_enter Tryz.func6, Tryz.ntmps6
  go_wp2_with fail
  refine (hbig _).mono ?_; rintro e w0 ⟨rfl, rfl⟩
  go_wp2_with fail
  refine hp.mono ?_; rintro e w1 ⟨m, AF, nF, cF, k, Aa, ca, args, mem, fuel, rfl, ⟨hk, hm2⟩, hkm, hra, hms, ⟨f0, f1⟩, hb1⟩
  have hkm' := Hd.mk hkm
  have hra' := Hd.mk hra
  have hb1' := Hd.mk hb1
  have hbx1 := Hd.mk fun (o : Obj) => (Below.refl w1.heap.size w1).al (Nat.le_refl _) o
  have hp := c_Invoked m [.slice AF nF cF] k (.slice Aa args.length ca) args mem fuel (w1.alloc (.cells #[.slice AF nF cF] 38)) (KM.mv hkm (hbx1.out _)) (hra.mv (hbx1.out _)) (by omega)
  clear hkm hra hb1
  have hout := resR_out m k args mem fuel
  have hsaid := Hd.mk (resR_said m k args mem fuel)
  go_wp2_with fail
  refine hp.mono ?_; rintro e w2 ⟨V2, rfl, hV2, hb2⟩
  have h12 := (hbx1.out (.cells #[.slice AF nF cF] 38)).then hb2
  have hmb2 := (hb2.block w1.heap.size (by simp)).trans (heap_new w1 #[.slice AF nF cF] 38 _ rfl)
  have hbx2 := Hd.mk fun (o : Obj) => (Below.refl w2.heap.size w2).al (Nat.le_refl _) o
  have hl2 : w1.heap.size < w2.heap.size := (Array.getElem?_eq_some_iff.1 hmb2).1
  have m0 := (row_facts hmb2).1 0
  simp at m0
  have hp := s_Invoked m [.slice AF nF cF] k (.slice Aa args.length ca) args mem fuel (w2.alloc (.cells #[.int .i64 (resR m k args mem fuel).code, .int .i64 (resR m k args mem fuel).value, V2, .string (resR m k args mem fuel).mem, .int .i64 (resR m k args mem fuel).steps] 40)) (KM.mv hkm'.out (h12.then (hbx2.out _))) (hra'.out.mv (h12.then (hbx2.out _))) (by omega)
  have h12' := Hd.mk h12
  generalize hR : resR m k args mem fuel = R at *
  have hR' := Hd.mk hR
  clear hR
  unfold resV
  have hv2 : KRes w2 R [.int .i64 R.code, .int .i64 R.value, V2, .string R.mem, .int .i64 R.steps] := res_K hV2 hout
  obtain ⟨A2, c2, rfl, -, -, -, -⟩ := own_shape hV2
  have hv2' := Hd.mk hv2
  have hB2 := Hd.mk (hb1'.out.then h12)
  have hmb2' := Hd.mk hmb2
  clear hV2 hb2 h12 hv2 hmb2
  go_wp2_with fail
  refine hp.mono ?_; rintro e w3 ⟨V3, rfl, hV3, hb3⟩
  unfold resV
  have hv3 : KRes w3 R [.int .i64 R.code, .int .i64 R.value, V3, .string R.mem, .int .i64 R.steps] := res_K hV3 hout
  obtain ⟨A3, c3, rfl, -, -, -, -⟩ := own_shape hV3
  have hrb3 := Hd.mk ((hb3.block w2.heap.size (by simp)).trans (heap_new w2 #[.int .i64 R.code, .int .i64 R.value, .slice A2 R.out.length c2, .string R.mem, .int .i64 R.steps] 40 _ rfl))
  have h23 := (hbx2.out (.cells #[.int .i64 R.code, .int .i64 R.value, .slice A2 R.out.length c2, .string R.mem, .int .i64 R.steps] 40)).then hb3
  have hB3 := Hd.mk (hB2.out.then h23)
  have hmb3 := Hd.mk ((h23.block w1.heap.size hl2).trans hmb2'.out)
  have hl3 : w2.heap.size < w3.heap.size := (Array.getElem?_eq_some_iff.1 hrb3.out).1
  have hl13 : w1.heap.size < w3.heap.size := by omega
  have hbx3 := Hd.mk fun (o : Obj) => (Below.refl w3.heap.size w3).al (Nat.le_refl _) o
  have h23' := Hd.mk h23
  have hv23 := hv2'.out.mv8 h23
  have b0 := (row_facts hrb3.out).1 0
  have b1 := (row_facts hrb3.out).1 1
  have b2 := (row_facts hrb3.out).1 2
  have b3 := (row_facts hrb3.out).1 3
  have b4 := (row_facts hrb3.out).1 4
  simp at b0 b1 b2 b3 b4
  have hp := l_sameResult R R _ _ (w3.alloc (.cells #[.int .i64 R.code, .int .i64 R.value, .slice A3 R.out.length c3, .string R.mem, .int .i64 R.steps] 40)) (hv23.mv8 (hbx3.out _)) (hv3.mv8 (hbx3.out _))
  rw [decide_eq_true rfl] at hp
  have hv3' := Hd.mk hv3
  have hv23' := Hd.mk hv23
  clear hV3 hb3 hv3 h23 hv23 m0
  go_wp2_with fail
  refine hp.mono ?_; rintro e w4 ⟨rfl, hb4⟩
  have h34 := (hbx3.out (.cells #[.int .i64 R.code, .int .i64 R.value, .slice A3 R.out.length c3, .string R.mem, .int .i64 R.steps] 40)).then hb4
  have hB4 := Hd.mk (hB3.out.then h34)
  have hrc := (hb4.block w3.heap.size (by simp)).trans (heap_new w3 #[.int .i64 R.code, .int .i64 R.value, .slice A3 R.out.length c3, .string R.mem, .int .i64 R.steps] 40 _ rfl)
  have hrb4 := Hd.mk ((h34.block w2.heap.size hl3).trans hrb3.out)
  have hmb4 := Hd.mk ((h34.block w1.heap.size hl13).trans hmb3.out)
  have hl4 : w2.heap.size < w4.heap.size := (Array.getElem?_eq_some_iff.1 hrb4.out).1
  have hl14 : w1.heap.size < w4.heap.size := by omega
  have hlc4 : w3.heap.size < w4.heap.size := (Array.getElem?_eq_some_iff.1 hrc).1
  have h34' := Hd.mk h34
  replace b0 := (row_facts hrb4.out).1 0
  replace b1 := (row_facts hrb4.out).1 1
  replace b2 := (row_facts hrb4.out).1 2
  replace b3 := (row_facts hrb4.out).1 3
  replace b4 := (row_facts hrb4.out).1 4
  simp at b0 b1 b2 b3 b4
  have hrc' := Hd.mk hrc
  have hv24 := Hd.mk (hv23'.out.mv8 h34)
  by_cases h6 : R.code = 6
  · have d6 : (R.code == 6) = true := by simp [h6]
    clear h6 hsaid
    have e0 := (row_facts hrc).1 0
    have e1 := (row_facts hrc).1 1
    have e2 := (row_facts hrc).1 2
    have e3 := (row_facts hrc).1 3
    have e4 := (row_facts hrc).1 4
    simp at e0 e1 e2 e3 e4
    have hp := l_sameResult R R _ _ w4 hv24.out (hv3'.out.mv8 h34)
    rw [decide_eq_true rfl] at hp
    clear hb4 h34 hrc
    go_wp2_with fail
    refine hp.mono ?_; rintro e w5 ⟨rfl, hb5⟩
    have hB5 := hB4.out.then hb5
    go_wp2
    (try simp only [Exit.inBlock, Exit.then])
    refine bodyPost_ret (v := .bool true) (by simp [results, Tryz.results6, go_sem]) rfl ?_
    exact ⟨rfl, hB5⟩
  have d6 := beqF h6
  obtain ⟨hs1, hs2, hs3, hs4, hs5, hs6, hs7, hs8⟩ := hsaid.out h6
  clear hb4 h34 hrc
  go_wp2
  go_loopw [10] (fun s10 wr => ∃ i : Nat, i ≤ R.out.length ∧ s10 = .int .i64 i ∧ Hd (Below w4.heap.size w4 wr)) (fun s10 _ => R.out.length - (intOf s10).toNat)
  case atStart => exact ⟨0, Nat.zero_le _, rfl, ⟨Below.refl _ _⟩⟩
  case round =>
    obtain ⟨i, hi, rfl, hbr⟩ := hrel
    have hrb5 := (hbr.out.block _ hl4).trans hrb4.out
    have hmb5 := (hbr.out.block _ hl14).trans hmb4.out
    replace b0 := (row_facts hrb5).1 0
    replace b1 := (row_facts hrb5).1 1
    replace b2 := (row_facts hrb5).1 2
    replace b3 := (row_facts hrb5).1 3
    replace b4 := (row_facts hrb5).1 4
    simp at b0 b1 b2 b3 b4
    by_cases hlt : i < R.out.length
    · obtain ⟨v9, hv9, hri⟩ := hv24.out
      injection hv9 with _ hv9
      injection hv9 with _ hv9
      injection hv9 with hv9 _
      subst hv9
      obtain ⟨b, off, cs, hA, hbl, hk1, hat⟩ := hri.in0 hbr.out i hlt
      cases hA
      cases hk1
      have g0 := hat 0 _ rfl
      simp at g0
      clear hat hri
      have hx := hs2 _ (List.getElem_mem hlt)
      generalize R.out[i] = x at *
      have hz : (i : Int) < (R.out.length : Int) := by omega
      have hz0 : (0 : Int) ≤ (i : Int) := by omega
      have hx0 : ¬ x < 0 := by omega
      have hx1 : ¬ (4294967295 : Int) < x := by omega
      have hx2 : ¬ x > (4294967295 : Int) := by omega
      clear hrb5 hmb5
      go_wp2
      go_roundw
      case rel => exact ⟨i + 1, by omega, by go_num, hbr⟩
      case measure => simp [intOf]; omega
    have hzn : ¬ (i : Int) < (R.out.length : Int) := by omega
    have hbw := Hd.mk (hB4.out.then hbr.out)
    obtain ⟨vm, hvm, hrm⟩ := KM.mv hkm'.out (h12'.out.then (h23'.out.then (h34'.out.then hbr.out)))
    injection hvm with hvm _
    subst hvm
    obtain ⟨b, off, cs, hA, hbl, ⟨p1, p2, rfl, -, -⟩, hat⟩ := hrm.in0 (Below.refl _ _) k hk
    cases hA
    have g1 := hat 1 _ rfl
    (try simp at g1)
    have hvn : nF = m.funcs.length := by
      obtain ⟨Am, cm, hvn, -, -, -⟩ := hrm.sm
      injection hvn
    have hmk := fun W => c_Masked (m.funcs[k]'hk).ret R.value W
    rw [show (m.funcs.getD (k : Int).toNat func0) = m.funcs[k]'hk by simp [hk]] at hs6
    rw [hs6] at hmk
    generalize (m.funcs[k]'hk).ret = ret at *
    have m0 := (row_facts hmb5).1 0
    simp at m0
    have hkF : (k : Int) < (nF : Int) := by omega
    have hk0 : (0 : Int) ≤ (k : Int) := by omega
    have hkN : k < nF := by omega
    have hly : w2.heap.size < wr.heap.size := (Array.getElem?_eq_some_iff.1 hrb5).1
    have hlm : w1.heap.size < wr.heap.size := (Array.getElem?_eq_some_iff.1 hmb5).1
    have d1 : decide (R.code ≥ 0) = true := by simp; omega
    have d1' : decide (0 ≤ R.code) = true := by simp; omega
    have d2 : decide (R.code ≤ 7) = true := by simp; omega
    have d3 : decide (R.steps ≤ fuel) = true := by simpa using hs4
    have d4 : ((R.mem.size : Int) == 32) = true := by simp [hs5]
    have d5 : (R.value == R.value) = true := by simp
    have d7 : decide ((R.out.length : Int) ≤ 30) = true := by simp; omega
    clear hvn hat hrm hrb5 hmb5 hs1 hs2 hs6 hv23' hv3' hrc' hkm' hra' hbr
    have hB5 := hbw
    by_cases h0 : R.code = 0
    · have d8 : (R.code == 0) = true := by simp [h0]
      clear h0
      go_wp2
      refine wp_region_bel (by kernel_rfl) (by kernel_rfl) ?_
      simp only [List.toList_toArray]
      repeat' first
        | (refine seq_val (by rfl) (by intro W hS; have t0 := (bat hS w2.heap.size hly 0).trans b0; have t1 := (bat hS w2.heap.size hly 1).trans b1; have t2 := (bat hS w2.heap.size hly 2).trans b2; have t3 := (bat hS w2.heap.size hly 3).trans b3; have t4 := (bat hS w2.heap.size hly 4).trans b4; have u0 := (bat hS w1.heap.size hlm 0).trans m0; have u1 := (bat hS b hbl (off + k * 3 + 1)).trans g1; go_simp; first | done | rfl) ?_; simp only [Act.put, List.setIfInBounds_toArray, List.set_cons_zero, List.set_cons_succ])
        | (refine seq_skip (by rfl) ?_; simp only [Act.put, List.setIfInBounds_toArray, List.set_cons_zero, List.set_cons_succ])
        | (refine seq_ret 20 _ (by rfl) (by intro W hS; have t0 := (bat hS w2.heap.size hly 0).trans b0; have t1 := (bat hS w2.heap.size hly 1).trans b1; have t2 := (bat hS w2.heap.size hly 2).trans b2; have t3 := (bat hS w2.heap.size hly 3).trans b3; have t4 := (bat hS w2.heap.size hly 4).trans b4; have u0 := (bat hS w1.heap.size hlm 0).trans m0; have u1 := (bat hS b hbl (off + k * 3 + 1)).trans g1; go_simp; first | done | rfl) (fun W hS => Same.ret (hmk W)) ?_; simp only [Act.put, List.setIfInBounds_toArray, List.set_cons_zero, List.set_cons_succ])
        | fail
      refine seq_nil (fun W hS => ?_)
      have t0 := (bat hS w2.heap.size hly 0).trans b0
      have t1 := (bat hS w2.heap.size hly 1).trans b1
      have t2 := (bat hS w2.heap.size hly 2).trans b2
      have t3 := (bat hS w2.heap.size hly 3).trans b3
      have t4 := (bat hS w2.heap.size hly 4).trans b4
      have u0 := (bat hS w1.heap.size hlm 0).trans m0
      have u1 := (bat hS b hbl (off + k * 3 + 1)).trans g1
      go_wp2
      go_ret
      exact ⟨rfl, hB5.out.then hS⟩
    · have d8 := beqF h0
      have d9 : (R.value == 0) = true := by rcases hs7 with h | h; exact absurd h h0; simp [h]
      go_wp2
      refine wp_region_bel (by kernel_rfl) (by kernel_rfl) ?_
      simp only [List.toList_toArray]
      repeat' first
        | (refine seq_val (by rfl) (by intro W hS; have t0 := (bat hS w2.heap.size hly 0).trans b0; have t1 := (bat hS w2.heap.size hly 1).trans b1; have t2 := (bat hS w2.heap.size hly 2).trans b2; have t3 := (bat hS w2.heap.size hly 3).trans b3; have t4 := (bat hS w2.heap.size hly 4).trans b4; have u0 := (bat hS w1.heap.size hlm 0).trans m0; have u1 := (bat hS b hbl (off + k * 3 + 1)).trans g1; go_simp; first | done | rfl) ?_; simp only [Act.put, List.setIfInBounds_toArray, List.set_cons_zero, List.set_cons_succ])
        | (refine seq_skip (by rfl) ?_; simp only [Act.put, List.setIfInBounds_toArray, List.set_cons_zero, List.set_cons_succ])
        | (refine seq_ret 20 _ (by rfl) (by intro W hS; have t0 := (bat hS w2.heap.size hly 0).trans b0; have t1 := (bat hS w2.heap.size hly 1).trans b1; have t2 := (bat hS w2.heap.size hly 2).trans b2; have t3 := (bat hS w2.heap.size hly 3).trans b3; have t4 := (bat hS w2.heap.size hly 4).trans b4; have u0 := (bat hS w1.heap.size hlm 0).trans m0; have u1 := (bat hS b hbl (off + k * 3 + 1)).trans g1; go_simp; first | done | rfl) (fun W hS => Same.ret (hmk W)) ?_; simp only [Act.put, List.setIfInBounds_toArray, List.set_cons_zero, List.set_cons_succ])
        | fail
      refine seq_nil (fun W hS => ?_)
      have t0 := (bat hS w2.heap.size hly 0).trans b0
      have t1 := (bat hS w2.heap.size hly 1).trans b1
      have t2 := (bat hS w2.heap.size hly 2).trans b2
      have t3 := (bat hS w2.heap.size hly 3).trans b3
      have t4 := (bat hS w2.heap.size hly 4).trans b4
      have u0 := (bat hS w1.heap.size hlm 0).trans m0
      have u1 := (bat hS b hbl (off + k * 3 + 1)).trans g1
      go_wp2
      go_ret
      exact ⟨rfl, hB5.out.then hS⟩
end Go.Proofs.YtkcgejbnhpccdaaGreat
