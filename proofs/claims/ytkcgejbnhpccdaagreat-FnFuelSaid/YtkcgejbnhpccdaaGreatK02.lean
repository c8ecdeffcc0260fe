import Derived.Test.YtkcgejbnhpccdaaGreatP46
import Derived.Test.YtkcgejbnhpccdaaGreatP31
import Derived.Test.YtkcgejbnhpccdaaGreatK01
set_option linter.unusedSimpArgs false
set_option linter.unusedVariables false
namespace Go.Proofs.YtkcgejbnhpccdaaGreat
open Go.RowKit
theorem rd_cap {α : Type} {L sz : Nat} {K : World → α → List Value → Prop} {w : World} {A : Option Addr} {n c : Nat} {xs : List α} (h : Rd L sz K w (.slice A n c) xs) : xs.length ≤ c := by
  obtain ⟨A', c', hv, h1, -⟩ := h
  injection hv with _ _ hc
  omega
theorem rd_take {α : Type} {L sz : Nat} {K : World → α → List Value → Prop} {w : World} {A : Option Addr} {n c k : Nat} {xs : List α} (h : Rd L sz K w (.slice A n c) xs) (hk : k ≤ xs.length) : Rd L sz K w (.slice A k c) (xs.take k) := by
  obtain ⟨A', c', hv, h1, h2, h3, h4⟩ := h
  cases hv
  have hl : (xs.take k).length = k := by simp; omega
  refine ⟨A, c, by rw [hl], by omega, by omega, h3, fun h0 => ?_⟩
  obtain ⟨b, off, hA, hb, hat⟩ := h4 (by omega)
  refine ⟨b, off, hA, hb, fun i hi => ?_⟩
  rw [List.getElem_take]
  exact hat i (by omega)
theorem fuel_said (m : XMod) (k : Int) (args : List Int) (mem : ByteArray) (fuel : Int) (h0 : 0 ≤ fuel) (h1 : fuel ≤ 1000) : ((resR m k args mem fuel).code = 4 ∨ resR m k args mem (fuel + 100) = resR m k args mem fuel) ∧ (resR m k args mem (fuel / 2)).out <+: (resR m k args mem fuel).out ∧ (resR m k args mem (fuel / 2)).steps ≤ (resR m k args mem fuel).steps := by
  refine ⟨?_, ?_⟩
  · rcases resR_more m k args mem fuel (fuel + 100) h0 (by omega) (by omega) with ⟨-, h⟩ | ⟨h, -⟩
    · exact .inr h
    · exact .inl h
  · rcases resR_more m k args mem (fuel / 2) fuel (by omega) (by omega) (by omega) with ⟨-, h⟩ | ⟨-, h⟩
    · rw [h]; exact ⟨List.prefix_refl _, Int.le_refl _⟩
    · exact h
set_option maxRecDepth 40000 in
set_option maxHeartbeats 8000000 in
theorem f_Fuel (v : Value) (xs : List Int) (w : World) (hv : Rd lw 1 KB w v xs) : Calls Tryz.prog 5 #[v] w (RetT8 w) := by
  obtain ⟨A, c, rfl, h1, h2, h3, h4⟩ := hv
  have hlw : (xs.length : Int) ≤ 9223372036854775807 := by unfold lw at h2; omega
  have hbig := fun W => l_big A xs.length c W hlw
  by_cases hs : xs.length ≤ 1048576
  case neg =>
    have hgt : decide ((1048576 : Int) < xs.length) = true := by simp; omega
    rw [hgt] at hbig
    clear h4
    go_enter Tryz.func5, Tryz.ntmps5
    go_wp2_with fail
    refine (hbig _).mono ?_; rintro e w1 ⟨rfl, rfl⟩
    go_wp2
    go_ret
    exact ⟨rfl, Below.refl _ _⟩
  have hgt : decide ((1048576 : Int) < xs.length) = false := by simp; omega
  rw [hgt] at hbig
  have hv : Rd lm 1 KB w (.slice A xs.length c) xs := ⟨A, c, rfl, h1, hs, h3, h4⟩
  clear h1 h2 h3 h4 hlw hgt
  have hp := s_DrawInvoked _ xs w hv
  clear hv
  go_enter Tryz.func5, Tryz.ntmps5
  go_wp2_with fail
  refine (hbig _).mono ?_; rintro e w0 ⟨rfl, rfl⟩
  go_wp2_with fail
  refine hp.mono ?_; rintro e w1 ⟨m, AF, nF, cF, k, Aa, ca, args, mem, fuel, rfl, ⟨hk, hm2⟩, hkm, hra, hms, ⟨f0, f1⟩, hb1⟩
  have hkm' := Hd.mk hkm
  have hra' := Hd.mk hra
  have hb1' := Hd.mk hb1
  have hbx1 := Hd.mk fun (o : Obj) => (Below.refl w1.heap.size w1).al (Nat.le_refl _) o
  have hp := c_Invoked m [.slice AF nF cF] k (.slice Aa args.length ca) args mem fuel (w1.alloc (.cells #[.slice AF nF cF] 38)) (KM.mv hkm (hbx1.out _)) (hra.mv (hbx1.out _)) (by omega)
  clear hkm hra hb1
  have hout := resR_out m k args mem fuel
  have hsaid := Hd.mk (resR_said m k args mem fuel)
  go_wp2_with fail
  refine hp.mono ?_; rintro e w2 ⟨V2, rfl, hV2, hb2⟩
  have h12 := (hbx1.out (.cells #[.slice AF nF cF] 38)).then hb2
  have hmb2 := (hb2.block w1.heap.size (by simp)).trans (heap_new w1 #[.slice AF nF cF] 38 _ rfl)
  have hbx2 := Hd.mk fun (o : Obj) => (Below.refl w2.heap.size w2).al (Nat.le_refl _) o
  have hl2 : w1.heap.size < w2.heap.size := (Array.getElem?_eq_some_iff.1 hmb2).1
  have m0 := (row_facts hmb2).1 0
  simp at m0
  have hp := s_Invoked m [.slice AF nF cF] k (.slice Aa args.length ca) args mem fuel (w2.alloc (.cells #[.int .i64 (resR m k args mem fuel).code, .int .i64 (resR m k args mem fuel).value, V2, .string (resR m k args mem fuel).mem, .int .i64 (resR m k args mem fuel).steps] 40)) (KM.mv hkm'.out (h12.then (hbx2.out _))) (hra'.out.mv (h12.then (hbx2.out _))) (by omega)
  have h12' := Hd.mk h12
  have hfuel := Hd.mk (fuel_said m k args mem fuel f0 (by omega))
  generalize hR : resR m k args mem fuel = R at *
  have hR' := Hd.mk hR
  clear hR
  unfold resV
  have hv2 : KRes w2 R [.int .i64 R.code, .int .i64 R.value, V2, .string R.mem, .int .i64 R.steps] := res_K hV2 hout
  obtain ⟨A2, c2, rfl, -, -, -, -⟩ := own_shape hV2
  have hv2' := Hd.mk hv2
  have hB2 := Hd.mk (hb1'.out.then h12)
  have hmb2' := Hd.mk hmb2
  clear hV2 hb2 h12 hv2 hmb2
  go_wp2_with fail
  refine hp.mono ?_; rintro e w3 ⟨V3, rfl, hV3, hb3⟩
  unfold resV
  have hv3 : KRes w3 R [.int .i64 R.code, .int .i64 R.value, V3, .string R.mem, .int .i64 R.steps] := res_K hV3 hout
  obtain ⟨A3, c3, rfl, -, -, -, -⟩ := own_shape hV3
  have hrb3 := Hd.mk ((hb3.block w2.heap.size (by simp)).trans (heap_new w2 #[.int .i64 R.code, .int .i64 R.value, .slice A2 R.out.length c2, .string R.mem, .int .i64 R.steps] 40 _ rfl))
  have h23 := (hbx2.out (.cells #[.int .i64 R.code, .int .i64 R.value, .slice A2 R.out.length c2, .string R.mem, .int .i64 R.steps] 40)).then hb3
  have hB3 := Hd.mk (hB2.out.then h23)
  have hmb3 := Hd.mk ((h23.block w1.heap.size hl2).trans hmb2'.out)
  have hl3 : w2.heap.size < w3.heap.size := (Array.getElem?_eq_some_iff.1 hrb3.out).1
  have hl13 : w1.heap.size < w3.heap.size := by omega
  have hbx3 := Hd.mk fun (o : Obj) => (Below.refl w3.heap.size w3).al (Nat.le_refl _) o
  have h23' := Hd.mk h23
  have hv23 := hv2'.out.mv8 h23
  have b0 := (row_facts hrb3.out).1 0
  have b1 := (row_facts hrb3.out).1 1
  have b2 := (row_facts hrb3.out).1 2
  have b3 := (row_facts hrb3.out).1 3
  have b4 := (row_facts hrb3.out).1 4
  simp at b0 b1 b2 b3 b4
  have hp := l_sameResult R R _ _ (w3.alloc (.cells #[.int .i64 R.code, .int .i64 R.value, .slice A3 R.out.length c3, .string R.mem, .int .i64 R.steps] 40)) (hv23.mv8 (hbx3.out _)) (hv3.mv8 (hbx3.out _))
  rw [decide_eq_true rfl] at hp
  have hv3' := Hd.mk hv3
  have hv23' := Hd.mk hv23
  clear hV3 hb3 hv3 h23 hv23 m0
  go_wp2_with fail
  refine hp.mono ?_; rintro e w4 ⟨rfl, hb4⟩
  have h34 := (hbx3.out (.cells #[.int .i64 R.code, .int .i64 R.value, .slice A3 R.out.length c3, .string R.mem, .int .i64 R.steps] 40)).then hb4
  have hB4 := Hd.mk (hB3.out.then h34)
  have hrc := (hb4.block w3.heap.size (by simp)).trans (heap_new w3 #[.int .i64 R.code, .int .i64 R.value, .slice A3 R.out.length c3, .string R.mem, .int .i64 R.steps] 40 _ rfl)
  have hrb4 := Hd.mk ((h34.block w2.heap.size hl3).trans hrb3.out)
  have hmb4 := Hd.mk ((h34.block w1.heap.size hl13).trans hmb3.out)
  have hl4 : w2.heap.size < w4.heap.size := (Array.getElem?_eq_some_iff.1 hrb4.out).1
  have hl14 : w1.heap.size < w4.heap.size := by omega
  have hlc4 : w3.heap.size < w4.heap.size := (Array.getElem?_eq_some_iff.1 hrc).1
  have h34' := Hd.mk h34
  replace b0 := (row_facts hrb4.out).1 0
  replace b1 := (row_facts hrb4.out).1 1
  replace b2 := (row_facts hrb4.out).1 2
  replace b3 := (row_facts hrb4.out).1 3
  replace b4 := (row_facts hrb4.out).1 4
  simp at b0 b1 b2 b3 b4
  have hrc' := Hd.mk hrc
  have hv24 := Hd.mk (hv23'.out.mv8 h34)
  by_cases h6 : R.code = 6
  · have d6 : (R.code == 6) = true := by simp [h6]
    clear h6 hsaid
    have e0 := (row_facts hrc).1 0
    have e1 := (row_facts hrc).1 1
    have e2 := (row_facts hrc).1 2
    have e3 := (row_facts hrc).1 3
    have e4 := (row_facts hrc).1 4
    simp at e0 e1 e2 e3 e4
    have hp := l_sameResult R R _ _ w4 hv24.out (hv3'.out.mv8 h34)
    rw [decide_eq_true rfl] at hp
    clear hb4 h34 hrc
    go_wp2_with fail
    refine hp.mono ?_; rintro e w5 ⟨rfl, hb5⟩
    have hB5 := hB4.out.then hb5
    go_wp2
    (try simp only [Exit.inBlock, Exit.then])
    refine bodyPost_ret (v := .bool true) (by simp [results, Tryz.results5, go_sem]) rfl ?_
    exact ⟨rfl, hB5⟩
  have d6 := beqF h6
  obtain ⟨hs1, hs2, hs3, hs4, hs5, hs6, hs7, hs8⟩ := hsaid.out h6
  clear hb4 h34 hrc
  obtain ⟨hA, hBp, hBs⟩ := hfuel.out
  have hw100 : IntKind.i64.wrap (fuel + 100) = fuel + 100 := IntWalk.i64_in _ (by omega)
  have hkm4 := KM.mv hkm'.out (h12'.out.then (h23'.out.then h34'.out))
  have hra4 := hra'.out.mv (h12'.out.then (h23'.out.then h34'.out))
  have m4 := (row_facts hmb4.out).1 0
  simp at m4
  have hp := c_Invoked m [.slice AF nF cF] k (.slice Aa args.length ca) args mem (fuel + 100) w4 hkm4 hra4 (by omega)
  have hkm4' := Hd.mk hkm4
  have hra4' := Hd.mk hra4
  have ho5 := resR_out m k args mem (fuel + 100)
  have ho6 := resR_out m k args mem (fuel / 2)
  have hdiv : fuel.tdiv 2 = fuel / 2 := Int.tdiv_eq_ediv_of_nonneg f0
  have hwdiv : IntKind.i64.wrap (fuel / 2) = fuel / 2 := IntWalk.i64_in _ (by omega)
  generalize resR m k args mem (fuel + 100) = RM at *
  clear hkm4 hra4 hs1 hs2 hs3 hs4 hs5 hs6 hs7 hs8 hsaid
  go_wp2_with fail
  refine hp.mono ?_; rintro e w5 ⟨V5, rfl, hV5, hb5⟩
  unfold resV
  have hv5 : KRes w5 RM [.int .i64 RM.code, .int .i64 RM.value, V5, .string RM.mem, .int .i64 RM.steps] := res_K hV5 ho5
  obtain ⟨A5, c5, rfl, -, -, -, -⟩ := own_shape hV5
  have hbx5 := Hd.mk fun (o : Obj) => (Below.refl w5.heap.size w5).al (Nat.le_refl _) o
  have h45 := hb5.then (hbx5.out (.cells #[.int .i64 RM.code, .int .i64 RM.value, .slice A5 RM.out.length c5, .string RM.mem, .int .i64 RM.steps] 40))
  have m5 := (row_facts ((hb5.block _ hl14).trans hmb4.out)).1 0
  simp at m5
  have hl5 : w1.heap.size < w5.heap.size := Nat.lt_of_lt_of_le hl14 hb5.size
  have hl52 : w2.heap.size < w5.heap.size := Nat.lt_of_lt_of_le hl4 hb5.size
  have hp := c_Invoked m [.slice AF nF cF] k (.slice Aa args.length ca) args mem (fuel / 2) (w5.alloc (.cells #[.int .i64 RM.code, .int .i64 RM.value, .slice A5 RM.out.length c5, .string RM.mem, .int .i64 RM.steps] 40)) (KM.mv hkm4'.out h45) (hra4'.out.mv h45) (by omega)
  generalize resR m k args mem (fuel / 2) = RL at *
  have hB45 := Hd.mk h45
  have hv5' := Hd.mk hv5
  have hb5' := Hd.mk hb5
  clear hV5 hb5 h45 hv5 m4
  go_wp2_with fail
  refine hp.mono ?_; rintro e w6 ⟨V6, rfl, hV6, hb6⟩
  unfold resV
  have hv6 : KRes w6 RL [.int .i64 RL.code, .int .i64 RL.value, V6, .string RL.mem, .int .i64 RL.steps] := res_K hV6 ho6
  obtain ⟨A6, c6, rfl, -, -, -, -⟩ := own_shape hV6
  obtain ⟨W7, hW7⟩ : ∃ W7 : World, W7 = w6.alloc (.cells #[.int .i64 RL.code, .int .i64 RL.value, .slice A6 RL.out.length c6, .string RL.mem, .int .i64 RL.steps] 40) := ⟨_, rfl⟩
  have hb67 : Below w6.heap.size w6 W7 := by rw [hW7]; exact (Below.refl _ _).al (Nat.le_refl _) _
  have h11 : W7.heap[w6.heap.size]? = some (.cells #[.int .i64 RL.code, .int .i64 RL.value, .slice A6 RL.out.length c6, .string RL.mem, .int .i64 RL.steps] 40 (0, 0)) := by rw [hW7]; exact heap_new _ _ _ _ rfl
  have h57 := hb6.then hb67
  have h10 := (h57.block w5.heap.size (by simp)).trans (heap_new w5 #[.int .i64 RM.code, .int .i64 RM.value, .slice A5 RM.out.length c5, .string RM.mem, .int .i64 RM.steps] 40 _ rfl)
  have h47 := hB45.out.then h57
  have h8 := (h47.block _ hl4).trans hrb4.out
  have hB7 := Hd.mk (hB4.out.then h47)
  have hvr := Hd.mk (hv24.out.mv8 h47)
  have hv7 := Hd.mk (hv6.mv8 hb67)
  have hv57 := Hd.mk (hv5'.out.mv8 ((hbx5.out _).then h57))
  have k8 := row_facts h8
  have k10 := row_facts h10
  have k11 := row_facts h11
  have x0 := k8.1 0
  have x1 := k8.1 1
  have x2 := k8.1 2
  have x3 := k8.1 3
  have x4 := k8.1 4
  have y0 := k10.1 0
  have y1 := k10.1 1
  have y2 := k10.1 2
  have y3 := k10.1 3
  have y4 := k10.1 4
  have z2 := k11.1 2
  have z4 := k11.1 4
  simp at x0 x1 x2 x3 x4 y0 y1 y2 y3 y4 z2 z4
  have ly8 : w2.heap.size < W7.heap.size := (Array.getElem?_eq_some_iff.1 h8).1
  have ly10 : w5.heap.size < W7.heap.size := (Array.getElem?_eq_some_iff.1 h10).1
  have ly11 : w6.heap.size < W7.heap.size := (Array.getElem?_eq_some_iff.1 h11).1
  have hW7' := Hd.mk hW7
  obtain ⟨vr, hvr1, hrr⟩ := hvr.out
  injection hvr1 with _ hvr1
  injection hvr1 with _ hvr1
  injection hvr1 with hvr1 _
  subst hvr1
  obtain ⟨vl, hvl1, hrl⟩ := hv7.out
  injection hvl1 with _ hvl1
  injection hvl1 with _ hvl1
  injection hvl1 with hvl1 _
  subst hvl1
  have hlen : RL.out.length ≤ R.out.length := hBp.length_le
  have hcap : R.out.length ≤ c2 := rd_cap hrr
  have hsi := fun W (hS : Below W7.heap.size W7 W) => l_sameInts (.slice A6 RL.out.length c6) (.slice A2 RL.out.length c2) RL.out (R.out.take RL.out.length) W (hrl.mv hS) ((rd_take hrr hlen).mv hS)
  rw [decide_eq_true (List.prefix_iff_eq_take.1 hBp)] at hsi
  have e1 : decide ((RL.out.length : Int) > (R.out.length : Int)) = false := by simp; omega
  have e1' : decide ((R.out.length : Int) < (RL.out.length : Int)) = false := by simp; omega
  have e1n : decide (R.out.length < RL.out.length) = false := by simp; omega
  have e2 : decide (RL.steps > R.steps) = false := by simp; omega
  have e2' : decide (R.steps < RL.steps) = false := by simp; omega
  have e3 : (RL.out.length : Int) ≤ (c2 : Int) := by omega
  have e4 : RL.out.length ≤ c2 := by omega
  have e5 : (0 : Int) ≤ (RL.out.length : Int) := by omega
  clear hV6 hb6 hv6 hW7 hb67 h11 h57 h10 h47 h8 k8 k10 k11 hrr hrl m5 hBp hBs hcap
  go_wp2
  rw [← hW7'.out]
  refine wp_region_bel (by kernel_rfl) (by kernel_rfl) ?_
  simp only [List.toList_toArray]
  repeat' first
    | (refine seq_val (by rfl) (by intro W hS; have s0 := (bat hS w2.heap.size ly8 0).trans x0; have s1 := (bat hS w2.heap.size ly8 1).trans x1; have s2 := (bat hS w2.heap.size ly8 2).trans x2; have s3 := (bat hS w2.heap.size ly8 3).trans x3; have s4 := (bat hS w2.heap.size ly8 4).trans x4; have r0 := (bat hS w5.heap.size ly10 0).trans y0; have r1 := (bat hS w5.heap.size ly10 1).trans y1; have r2 := (bat hS w5.heap.size ly10 2).trans y2; have r3 := (bat hS w5.heap.size ly10 3).trans y3; have r4 := (bat hS w5.heap.size ly10 4).trans y4; have q2 := (bat hS w6.heap.size ly11 2).trans z2; have q4 := (bat hS w6.heap.size ly11 4).trans z4; go_simp; first | done | rfl) ?_; simp only [Act.put, List.setIfInBounds_toArray, List.set_cons_zero, List.set_cons_succ])
    | (refine seq_skip (by rfl) ?_; simp only [Act.put, List.setIfInBounds_toArray, List.set_cons_zero, List.set_cons_succ])
    | (refine seq_ret 19 _ (by rfl) (by intro W hS; have s0 := (bat hS w2.heap.size ly8 0).trans x0; have s1 := (bat hS w2.heap.size ly8 1).trans x1; have s2 := (bat hS w2.heap.size ly8 2).trans x2; have s3 := (bat hS w2.heap.size ly8 3).trans x3; have s4 := (bat hS w2.heap.size ly8 4).trans x4; have r0 := (bat hS w5.heap.size ly10 0).trans y0; have r1 := (bat hS w5.heap.size ly10 1).trans y1; have r2 := (bat hS w5.heap.size ly10 2).trans y2; have r3 := (bat hS w5.heap.size ly10 3).trans y3; have r4 := (bat hS w5.heap.size ly10 4).trans y4; have q2 := (bat hS w6.heap.size ly11 2).trans z2; have q4 := (bat hS w6.heap.size ly11 4).trans z4; go_simp; first | done | rfl) (fun W hS => hsi W hS) ?_; simp only [Act.put, List.setIfInBounds_toArray, List.set_cons_zero, List.set_cons_succ])
    | fail
  refine seq_nil (fun W hS => ?_)
  have s0 := (bat hS w2.heap.size ly8 0).trans x0
  have s1 := (bat hS w2.heap.size ly8 1).trans x1
  have s2 := (bat hS w2.heap.size ly8 2).trans x2
  have s3 := (bat hS w2.heap.size ly8 3).trans x3
  have s4 := (bat hS w2.heap.size ly8 4).trans x4
  have r0 := (bat hS w5.heap.size ly10 0).trans y0
  have r1 := (bat hS w5.heap.size ly10 1).trans y1
  have r2 := (bat hS w5.heap.size ly10 2).trans y2
  have r3 := (bat hS w5.heap.size ly10 3).trans y3
  have r4 := (bat hS w5.heap.size ly10 4).trans y4
  have q2 := (bat hS w6.heap.size ly11 2).trans z2
  have q4 := (bat hS w6.heap.size ly11 4).trans z4
  by_cases h4 : R.code = 4
  · have d4 : (R.code == 4) = true := by simp [h4]
    clear h4
    have hBf := Hd.mk (hB7.out.then hS)
    clear hS
    go_wp2
    go_ret
    exact ⟨rfl, hBf.out⟩
  · have d4 := beqF h4
    have hRM : RM = R := by
      rcases hA with h | h
      · exact absurd h h4
      · exact h
    have hp := l_sameResult RM R _ _ W (hv57.out.mv8 hS) (hvr.out.mv8 hS)
    rw [decide_eq_true hRM] at hp
    have hBf := Hd.mk (hB7.out.then hS)
    clear hS hRM hA h4
    go_wp2_with fail
    refine hp.mono ?_; rintro e w9 ⟨rfl, hb9⟩
    have hB9 := hBf.out.then hb9
    go_wp2
    go_ret
    exact ⟨rfl, hB9⟩
end Go.Proofs.YtkcgejbnhpccdaaGreat
