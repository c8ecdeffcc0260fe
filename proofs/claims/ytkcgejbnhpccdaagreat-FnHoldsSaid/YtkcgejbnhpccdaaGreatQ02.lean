import Derived.Test.YtkcgejbnhpccdaaGreatP46
import Derived.Test.YtkcgejbnhpccdaaGreatQ01
set_option linter.unusedSimpArgs false
set_option linter.unusedVariables false
namespace Go.Proofs.YtkcgejbnhpccdaaGreat
open Go.RowKit
set_option maxRecDepth 40000 in
set_option maxHeartbeats 8000000 in
theorem f_Holds (v : Value) (xs : List Int) (w : World) (hv : Rd lw 1 KB w v xs) : Calls Tryz.prog 7 #[v] w (RetT8 w) := by
  obtain ⟨A, c, rfl, h1, h2, h3, h4⟩ := hv
  have hlw : (xs.length : Int) ≤ 9223372036854775807 := by unfold lw at h2; omega
  have hbig := fun W => l_big A xs.length c W hlw
  by_cases hs : xs.length ≤ 1048576
  case neg =>
    have hgt : decide ((1048576 : Int) < xs.length) = true := by simp; omega
    rw [hgt] at hbig
    clear h4
    go_enter Tryz.func7, Tryz.ntmps7
    go_wp2_with fail
    refine (hbig _).mono ?_; rintro e w1 ⟨rfl, rfl⟩
    go_wp2
    go_ret
    exact ⟨rfl, Below.refl _ _⟩
  have hgt : decide ((1048576 : Int) < xs.length) = false := by simp; omega
  rw [hgt] at hbig
  have hv : Rd lm 1 KB w (.slice A xs.length c) xs := ⟨A, c, rfl, h1, hs, h3, h4⟩
  clear h1 h2 h3 h4 hlw hgt
  have hp := s_DrawHolds _ xs w hv
  clear hv
  go_enter Tryz.func7, Tryz.ntmps7
  go_wp2_with fail
  refine (hbig _).mono ?_; rintro e w0 ⟨rfl, rfl⟩
  go_wp2_with fail
  refine hp.mono ?_; rintro e w1 ⟨m, AF, nF, cF, x, A1, c1, A2, c2, rfl, hm2, hkm, hms, ra, ro, hb1⟩
  rw [show (oraV x A1 c1 A2 c2).toArray = #[.int .i64 x.func, .slice A1 x.args.length c1, .string x.mem, .int .i64 x.want.code, .int .i64 x.want.value, .slice A2 x.want.out.length c2, .string x.want.mem, .int .i64 x.want.steps] from rfl]
  obtain ⟨W1, hW1⟩ : ∃ W1 : World, W1 = (w1.alloc (.cells #[.slice AF nF cF] 38)).alloc (.cells #[.int .i64 x.func, .slice A1 x.args.length c1, .string x.mem, .int .i64 x.want.code, .int .i64 x.want.value, .slice A2 x.want.out.length c2, .string x.want.mem, .int .i64 x.want.steps] 48) := ⟨_, rfl⟩
  have hBW : Below w1.heap.size w1 W1 := by rw [hW1]; exact ((Below.refl w1.heap.size w1).al (Nat.le_refl _) _).al (by simp) _
  have hzW : W1.heap.size = w1.heap.size + 1 + 1 := by rw [hW1]; simp
  have hm1 := Hd.mk (show W1.heap[w1.heap.size]? = some (.cells #[.slice AF nF cF] 38 (0, 0)) by rw [hW1]; exact heap_old (heap_new _ _ _ _ rfl) (by simp))
  have ho1 := Hd.mk (show W1.heap[w1.heap.size + 1]? = some (.cells #[.int .i64 x.func, .slice A1 x.args.length c1, .string x.mem, .int .i64 x.want.code, .int .i64 x.want.value, .slice A2 x.want.out.length c2, .string x.want.mem, .int .i64 x.want.steps] 48 (0, 0)) by rw [hW1]; exact heap_new _ _ _ _ (by simp))
  have hk1 := Hd.mk (show KOracle lm w1 x [.int .i64 x.func, .slice A1 x.args.length c1, .string x.mem, .int .i64 x.want.code, .int .i64 x.want.value, .slice A2 x.want.out.length c2, .string x.want.mem, .int .i64 x.want.steps] from ⟨_, _, rfl, ra, ro⟩)
  have hkm' := Hd.mk hkm
  have hra := Hd.mk ra
  have hro := Hd.mk ro
  have hms' : x.mem.size ≤ 1048576 := by omega
  have hp := c_Holds m [.slice AF nF cF] x [.int .i64 x.func, .slice A1 x.args.length c1, .string x.mem, .int .i64 x.want.code, .int .i64 x.want.value, .slice A2 x.want.out.length c2, .string x.want.mem, .int .i64 x.want.steps] W1 (KM.mv hkm hBW) (KM.mv hk1.out hBW) hms'
  have hB1 := Hd.mk (hb1.then hBW)
  have hBW' := Hd.mk hBW
  have hW1' := Hd.mk hW1
  clear hkm ra ro hb1 hBW hW1
  go_wp2_with fail
  rw [← hW1'.out]
  refine hp.mono ?_; rintro e w2 ⟨rfl, hb2⟩
  have hm2' := Hd.mk ((hb2.block _ (Array.getElem?_eq_some_iff.1 hm1.out).1).trans hm1.out)
  have ho2 := Hd.mk ((hb2.block _ (Array.getElem?_eq_some_iff.1 ho1.out).1).trans ho1.out)
  have hB2 := Hd.mk (hB1.out.then hb2)
  have h02 := Hd.mk (hBW'.out.then hb2)
  have m0 := (row_facts hm2'.out).1 0
  simp at m0
  have n0 := (row_facts ho2.out).1 0
  have n1 := (row_facts ho2.out).1 1
  have n2 := (row_facts ho2.out).1 2
  simp at n0 n1 n2
  have hp := c_Invoked m [.slice AF nF cF] x.func (.slice A1 x.args.length c1) x.args x.mem 2000 w2 (KM.mv hkm'.out h02.out) (hra.out.mv h02.out) hms'
  have hout := resR_out m x.func x.args x.mem 2000
  have hown := Hd.mk (fun h => holds_own (m := m) (f := x.func) (a := x.args) (s := x.mem) h)
  have hoth := Hd.mk (holds_other (m := m) (f := x.func) (a := x.args) (s := x.mem))
  have hfo := Hd.mk (fun h => holds_form (m := m) (o := x) h)
  have hwt := Hd.mk (fun h => holds_want (m := m) (o := x) h)
  have hvr := Hd.mk (fun h => value_rng (m := m) (k := x.func) (a := x.args) (s := x.mem) (fuel := 2000) h)
  generalize hR : resR m x.func x.args x.mem 2000 = R at *
  clear hR hb2
  go_wp2_with fail
  refine hp.mono ?_; rintro e w3 ⟨V3, rfl, hV3, hb3⟩
  unfold resV
  have hv3 : KRes w3 R [.int .i64 R.code, .int .i64 R.value, V3, .string R.mem, .int .i64 R.steps] := res_K hV3 hout
  obtain ⟨A3, c3, rfl, -, -, -, -⟩ := own_shape hV3
  obtain ⟨W3, hW3⟩ : ∃ W3 : World, W3 = w3.alloc (.cells #[.int .i64 R.code, .int .i64 R.value, .slice A3 R.out.length c3, .string R.mem, .int .i64 R.steps] 40) := ⟨_, rfl⟩
  have hbx3 : Below w3.heap.size w3 W3 := by rw [hW3]; exact (Below.refl _ _).al (Nat.le_refl _) _
  have h23 := hb3.then hbx3
  have hm3 := Hd.mk ((h23.block _ (Array.getElem?_eq_some_iff.1 hm2'.out).1).trans hm2'.out)
  have ho3 := Hd.mk ((h23.block _ (Array.getElem?_eq_some_iff.1 ho2.out).1).trans ho2.out)
  have hr3 := Hd.mk (show W3.heap[w3.heap.size]? = some (.cells #[.int .i64 R.code, .int .i64 R.value, .slice A3 R.out.length c3, .string R.mem, .int .i64 R.steps] 40 (0, 0)) by rw [hW3]; exact heap_new _ _ _ _ rfl)
  have hkr3 := Hd.mk (hv3.mv8 hbx3)
  have hB3 := Hd.mk (hB2.out.then h23)
  have h03 := Hd.mk (h02.out.then h23)
  have hm3x := (row_facts ((hb3.block _ (Array.getElem?_eq_some_iff.1 hm2'.out).1).trans hm2'.out)).1 0
  have hl13 : w1.heap.size < w3.heap.size := Nat.lt_of_lt_of_le (Array.getElem?_eq_some_iff.1 hm2'.out).1 hb3.size
  have hl14 : w1.heap.size + 1 < w3.heap.size := Nat.lt_of_lt_of_le (Array.getElem?_eq_some_iff.1 ho2.out).1 hb3.size
  have ho3x := row_facts ((hb3.block _ (Array.getElem?_eq_some_iff.1 ho2.out).1).trans ho2.out)
  simp at hm3x
  have p0 := ho3x.1 0
  have p1 := ho3x.1 1
  have p2 := ho3x.1 2
  have p3 := ho3x.1 3
  have p4 := ho3x.1 4
  have p5 := ho3x.1 5
  have p6 := ho3x.1 6
  have p7 := ho3x.1 7
  simp at p0 p1 p2 p3 p4 p5 p6 p7
  have hp := s_Holds m [.slice AF nF cF] x [.int .i64 x.func, .slice A1 x.args.length c1, .string x.mem, .int .i64 x.want.code, .int .i64 x.want.value, .slice A2 x.want.out.length c2, .string x.want.mem, .int .i64 x.want.steps] W3 (KM.mv hkm'.out h03.out) (KM.mv hk1.out h03.out) hms'
  have hW3' := Hd.mk hW3
  clear hV3 hb3 hv3 hbx3 h23 hW3 ho3x m0 n0 n1 n2
  go_wp2_with fail
  rw [← hW3'.out]
  refine hp.mono ?_; rintro e w4 ⟨rfl, hb4⟩
  have hm4 := Hd.mk ((hb4.block _ (Array.getElem?_eq_some_iff.1 hm3.out).1).trans hm3.out)
  have ho4 := Hd.mk ((hb4.block _ (Array.getElem?_eq_some_iff.1 ho3.out).1).trans ho3.out)
  have hr4 := Hd.mk ((hb4.block _ (Array.getElem?_eq_some_iff.1 hr3.out).1).trans hr3.out)
  have hk4 := Hd.mk (hkr3.out.mv8 hb4)
  have hB4 := Hd.mk (hB3.out.then hb4)
  have h04 := Hd.mk (h03.out.then hb4)
  have b0 := (row_facts hr4.out).1 0
  have m0 := (row_facts hm4.out).1 0
  simp at b0 m0
  have n0 := (row_facts ho4.out).1 0
  have n1 := (row_facts ho4.out).1 1
  have n2 := (row_facts ho4.out).1 2
  have n3 := (row_facts ho4.out).1 3
  have n4 := (row_facts ho4.out).1 4
  have n5 := (row_facts ho4.out).1 5
  have n6 := (row_facts ho4.out).1 6
  have n7 := (row_facts ho4.out).1 7
  simp at n0 n1 n2 n3 n4 n5 n6 n7
  have hdd : (holdsB m x == holdsB m x) = true := by simp
  have hdn : (holdsB m x != holdsB m x) = false := by simp
  by_cases h6 : R.code = 6
  · have d6 : (R.code == 6) = true := by simp [h6]
    have d6n : (R.code != 6) = false := by simp [h6]
    have hf := hfo.out h6
    have hp := s_Holds m [.slice AF nF cF] x [.int .i64 x.func, .slice A1 x.args.length c1, .string x.mem, .int .i64 x.want.code, .int .i64 x.want.value, .slice A2 x.want.out.length c2, .string x.want.mem, .int .i64 x.want.steps] w4 (KM.mv hkm'.out h04.out) (KM.mv hk1.out h04.out) hms'
    clear h6 hb4
    rw [hf] at hp hdd hdn ⊢
    go_wp2_with fail
    refine hp.mono ?_; rintro e w5 ⟨rfl, hb5⟩
    have b5 := (row_facts ((hb5.block _ (Array.getElem?_eq_some_iff.1 hr4.out).1).trans hr4.out)).1 0
    simp at b5
    have hB5 := hB4.out.then hb5
    go_wp2
    (try simp only [Exit.inBlock, Exit.then])
    refine bodyPost_ret (v := .bool true) (by simp [results, Tryz.results7, go_sem]) rfl ?_
    exact ⟨rfl, hB5⟩
  have d6 := beqF h6
  have hwt' := Hd.mk (hwt.out h6)
  have hown' := Hd.mk (hown.out h6)
  have hvr' := hvr.out h6
  have hk4s := hk4
  go_wp2
  clear h6 hb4 hfo hwt hown hvr b0 m0 n0 n1 n2 n3 n4 n5 n6 n7
  refine wp_region_hos (fun W => Hd (Below w4.heap.size w4 W)) (fun W W' => Below W.heap.size W W') [.k (.pointer (some ⟨w1.heap.size + 1, 0, none⟩)), .k (.int .i64 x.func), .k (.pointer (some ⟨w1.heap.size + 1, 1, none⟩)), .k (.slice A1 x.args.length c1), .k (.pointer (some ⟨w1.heap.size + 1, 2, none⟩)), .k (.string x.mem), .k (.agg #[.int .i64 R.code, .int .i64 R.value, .slice A3 R.out.length c3, .string R.mem, .int .i64 R.steps]), .n (fun v => ∃ A c, v = .agg #[.int .i64 R.code, .int .i64 R.value, .slice A R.out.length c, .string R.mem, .int .i64 0]) (fun W v => ∃ A c, v = .agg #[.int .i64 R.code, .int .i64 R.value, .slice A R.out.length c, .string R.mem, .int .i64 0] ∧ W.ownsRow w4.heap.size 2 1 (.slice A R.out.length c) R.out.length (R.out.map (Value.int .i64))), .n (fun v => ∃ A c, v = .agg #[.int .i64 x.func, .slice A1 x.args.length c1, .string x.mem, .int .i64 R.code, .int .i64 R.value, .slice A R.out.length c, .string R.mem, .int .i64 0]) (fun W v => ∃ A c, v = .agg #[.int .i64 x.func, .slice A1 x.args.length c1, .string x.mem, .int .i64 R.code, .int .i64 R.value, .slice A R.out.length c, .string R.mem, .int .i64 0] ∧ W.ownsRow w4.heap.size 2 1 (.slice A R.out.length c) R.out.length (R.out.map (Value.int .i64))), .n (fun v => ∃ b : Nat, v = .pointer (some ⟨b, 0, none⟩)) (fun W v => ∃ b : Nat, v = .pointer (some ⟨b, 0, none⟩) ∧ w4.heap.size ≤ b ∧ W.heap[b]? = some (.cells #[.int .i64 0, .slice none 0 0, .string ⟨#[]⟩, .int .i64 0, .int .i64 0, .slice none 0 0, .string ⟨#[]⟩, .int .i64 0] 48 (0, 0)))] (by kernel_rfl) (by kernel_rfl) (by kernel_rfl) ⟨(Below.refl _ _).drew⟩ (fun _ => .refl _ _) ?hex8 ?hst8 ?hrun8
  case hex8 =>
    simp only [ExS, Sp.pure]
    repeat' first | exact trivial | refine And.intro ?_ ?_ | exact ⟨_, rfl⟩ | exact ⟨_, none, 0, rfl⟩ | exact ⟨_, 0, rfl⟩
  case hst8 =>
    simp only [StS, Sp.inW]
    repeat' first | exact trivial | refine And.intro ?_ ?_ | (intro W W' v hS hR hi; first | exact trivial | (obtain ⟨A, c, rfl, h1⟩ := hi; exact ⟨A, c, rfl, own_mv h1 hR⟩) | (obtain ⟨b, rfl, h0, h1⟩ := hi; exact ⟨b, rfl, h0, (hR.block b (Array.getElem?_eq_some_iff.1 h1).1).trans h1⟩))
  simp only [List.toList_toArray]
  refine hos_k (fun W hS hk => ?_) ?_
  · clear hk
    go_simp
    first | done | rfl
  simp only [Act.put, List.setIfInBounds_toArray, List.set_cons_zero, List.set_cons_succ]
  refine hos_k (fun W hS hk => ?_) ?_
  · have hh := row_facts ((hS.out.block (w1.heap.size + 1) (Array.getElem?_eq_some_iff.1 ho4.out).1).trans ho4.out)
    have j0 := hh.1 0
    simp at j0
    clear hk hh
    go_simp
    first | done | rfl
  simp only [Act.put, List.setIfInBounds_toArray, List.set_cons_zero, List.set_cons_succ]
  refine hos_k (fun W hS hk => ?_) ?_
  · clear hk
    go_simp
    first | done | rfl
  simp only [Act.put, List.setIfInBounds_toArray, List.set_cons_zero, List.set_cons_succ]
  refine hos_k (fun W hS hk => ?_) ?_
  · have hh := row_facts ((hS.out.block (w1.heap.size + 1) (Array.getElem?_eq_some_iff.1 ho4.out).1).trans ho4.out)
    have j1 := hh.1 1
    simp at j1
    clear hk hh
    go_simp
    first | done | rfl
  simp only [Act.put, List.setIfInBounds_toArray, List.set_cons_zero, List.set_cons_succ]
  refine hos_k (fun W hS hk => ?_) ?_
  · clear hk
    go_simp
    first | done | rfl
  simp only [Act.put, List.setIfInBounds_toArray, List.set_cons_zero, List.set_cons_succ]
  refine hos_k (fun W hS hk => ?_) ?_
  · have hh := row_facts ((hS.out.block (w1.heap.size + 1) (Array.getElem?_eq_some_iff.1 ho4.out).1).trans ho4.out)
    have j2 := hh.1 2
    simp at j2
    clear hk hh
    go_simp
    first | done | rfl
  simp only [Act.put, List.setIfInBounds_toArray, List.set_cons_zero, List.set_cons_succ]
  refine hos_k (fun W hS hk => ?_) ?_
  · have hh := row_facts ((hS.out.block w3.heap.size (Array.getElem?_eq_some_iff.1 hr4.out).1).trans hr4.out)
    have j0 := hh.1 0
    have j1 := hh.1 1
    have j2 := hh.1 2
    have j3 := hh.1 3
    have j4 := hh.1 4
    simp at j0 j1 j2 j3 j4
    clear hk hh
    go_simp
    first | done | rfl
  simp only [Act.put, List.setIfInBounds_toArray, List.set_cons_zero, List.set_cons_succ]
  refine hos_n (fun W hS hk => ?_) ?_
  · refine opH_call 24 #[.agg #[.int .i64 R.code, .int .i64 R.value, .slice A3 R.out.length c3, .string R.mem, .int .i64 R.steps]] ?_ ?_
    · clear hk
      go_simp
      first | done | rfl
    · refine (c_Seen R [.int .i64 R.code, .int .i64 R.value, .slice A3 R.out.length c3, .string R.mem, .int .i64 R.steps] W (hk4.out.mv8 hS.out)).mono ?_
      rintro e w' ⟨v, rfl, ho, hb1⟩
      simp only [seenR] at ho
      obtain ⟨A, c, rfl, -, -, -, -⟩ := own_shape ho
      exact ⟨_, rfl, ⟨A, c, rfl⟩, ⟨A, c, rfl, own_lower ho hS.out.size⟩, ⟨hS.out.then hb1⟩, hb1⟩
  rintro _ ⟨A8, c8, rfl⟩
  simp only [Act.put, List.setIfInBounds_toArray, List.set_cons_zero, List.set_cons_succ]
  refine hos_n (fun W hS hk => ?_) ?_
  · obtain ⟨hk1, -⟩ := hk
    obtain ⟨A', c', he, ho⟩ := hk1 (by kernel_rfl)
    have he' : Value.slice A8 R.out.length c8 = .slice A' R.out.length c' := by injection he with he; simpa using he
    rw [← he'] at ho
    refine opH_val (.agg #[.int .i64 x.func, .slice A1 x.args.length c1, .string x.mem, .int .i64 R.code, .int .i64 R.value, .slice A8 R.out.length c8, .string R.mem, .int .i64 0]) W ?_ ⟨⟨_, _, rfl⟩, ⟨_, _, rfl, ho⟩, hS, .refl _ _⟩
    clear hk1 ho he he'
    go_simp
    first | done | rfl
  rintro _ ⟨B8, d8, rfl⟩
  simp only [Act.put, List.setIfInBounds_toArray, List.set_cons_zero, List.set_cons_succ]
  refine hos_n (fun W hS hk => ?_) ?_
  · refine opH_val (.pointer (some ⟨W.heap.size, 0, none⟩)) (W.alloc (.cells #[.int .i64 0, .slice none 0 0, .string ⟨#[]⟩, .int .i64 0, .int .i64 0, .slice none 0 0, .string ⟨#[]⟩, .int .i64 0] 48)) ?_ ⟨⟨_, rfl⟩, ⟨_, rfl, hS.out.size, heap_new _ _ _ _ rfl⟩, ⟨hS.out.al hS.out.size _⟩, (Below.refl _ _).al (Nat.le_refl _) _⟩
    clear hk
    go_simp
    first | done | rfl
  rintro _ ⟨b8, rfl⟩
  simp only [Act.put, List.setIfInBounds_toArray, List.set_cons_zero, List.set_cons_succ]
  refine hos_end (fun W hS hal => ?_)
  obtain ⟨-, ⟨A', c', he, ho⟩, ⟨bb, he2, hbb, hz⟩, -⟩ := hal
  have he' : Value.slice B8 R.out.length d8 = .slice A' R.out.length c' := by injection he with he; simpa using he
  rw [← he'] at ho
  cases he2
  clear he he'
  have y := row_facts hz
  have y0 := y.1 0
  have y1 := y.1 1
  have y2 := y.1 2
  have y3 := y.1 3
  have y4 := y.1 4
  have y5 := y.1 5
  have y6 := y.1 6
  have y7 := y.1 7
  have yf := y.2
  simp at y0 y1 y2 y3 y4 y5 y6 y7
  have hlz := (Array.getElem?_eq_some_iff.1 hz).1
  obtain ⟨w5, hX⟩ : ∃ X : World, X = ((((((((W.setCell ⟨b8, 0, none⟩ (.int .i64 x.func)).setCell ⟨b8, 1, none⟩ (.slice A1 x.args.length c1)).setCell ⟨b8, 2, none⟩ (.string x.mem)).setCell ⟨b8, 3, none⟩ (.int .i64 R.code)).setCell ⟨b8, 4, none⟩ (.int .i64 R.value)).setCell ⟨b8, 5, none⟩ (.slice B8 R.out.length d8)).setCell ⟨b8, 6, none⟩ (.string R.mem)).setCell ⟨b8, 7, none⟩ (.int .i64 0)) := ⟨_, rfl⟩
  have hFz : Fr (fun q => q = b8) W w5 := by
    rw [hX]
    exact ((((((((Fr.set W b8 0 _).go (Fr.set _ b8 1 _) fun q e => .inl e).go (Fr.set _ b8 2 _) fun q e => .inl e).go (Fr.set _ b8 3 _) fun q e => .inl e).go (Fr.set _ b8 4 _) fun q e => .inl e).go (Fr.set _ b8 5 _) fun q e => .inl e).go (Fr.set _ b8 6 _) fun q e => .inl e).go (Fr.set _ b8 7 _) fun q e => .inl e)
  have hbx8 := Hd.mk (show w5.heap[b8]? = some (.cells #[.int .i64 x.func, .slice A1 x.args.length c1, .string x.mem, .int .i64 R.code, .int .i64 R.value, .slice B8 R.out.length d8, .string R.mem, .int .i64 0] 48 (0, 0)) by
    rw [hX]
    exact (heap_set (heap_set (heap_set (heap_set (heap_set (heap_set (heap_set (heap_set hz)))))))).trans (by simp))
  have hBx8 := Hd.mk ((Fr.of (fun q => q = b8) hS.out).go hFz (fun q e => .inl e) |>.below (Nat.le_refl _) (fun q hq e => by omega))
  have hox8 := Hd.mk (own_fr ho hFz (fun q hq e => by subst e; exact own_noT ho hz (by decide) _ hq rfl))
  have hlb8 : w4.heap.size ≤ b8 := hbb
  have hX' := Hd.mk hX
  clear hX hFz hz hS ho y hbb
  refine tail_skip rfl _ (by go_simp; first | done | rfl) ?_
  simp only [Act.put, List.setIfInBounds_toArray, List.set_cons_zero, List.set_cons_succ]
  rw [← hX'.out]
  clear hX' y0 y1 y2 y3 y4 y5 y6 y7 yf hlz
  have hl45 := hBx8.out.size
  have ho5 := Hd.mk ((hBx8.out.block _ (Array.getElem?_eq_some_iff.1 ho4.out).1).trans ho4.out)
  have hr5 := Hd.mk ((hBx8.out.block _ (Array.getElem?_eq_some_iff.1 hr4.out).1).trans hr4.out)
  have hm5 := Hd.mk ((hBx8.out.block _ (Array.getElem?_eq_some_iff.1 hm4.out).1).trans hm4.out)
  have hk5 := Hd.mk (hk4s.out.mv8 hBx8.out)
  go_wp2
  refine wp_region_hos (fun W => Hd (Below w5.heap.size w5 W)) (fun W W' => Below W.heap.size W W') [.k (.pointer (some ⟨w1.heap.size + 1, 0, none⟩)), .k (.int .i64 x.func), .k (.pointer (some ⟨w1.heap.size + 1, 1, none⟩)), .k (.slice A1 x.args.length c1), .k (.pointer (some ⟨w1.heap.size + 1, 2, none⟩)), .k (.string x.mem), .k (.agg #[.int .i64 R.code, .int .i64 R.value, .slice A3 R.out.length c3, .string R.mem, .int .i64 R.steps]), .n (fun v => ∃ A c, v = .agg #[.int .i64 R.code, .int .i64 R.value, .slice A R.out.length c, .string R.mem, .int .i64 0]) (fun W v => ∃ A c, v = .agg #[.int .i64 R.code, .int .i64 R.value, .slice A R.out.length c, .string R.mem, .int .i64 0] ∧ W.ownsRow w5.heap.size 2 1 (.slice A R.out.length c) R.out.length (R.out.map (Value.int .i64))), .n (fun v => ∃ A c, v = .agg #[.int .i64 x.func, .slice A1 x.args.length c1, .string x.mem, .int .i64 R.code, .int .i64 R.value, .slice A R.out.length c, .string R.mem, .int .i64 0]) (fun W v => ∃ A c, v = .agg #[.int .i64 x.func, .slice A1 x.args.length c1, .string x.mem, .int .i64 R.code, .int .i64 R.value, .slice A R.out.length c, .string R.mem, .int .i64 0] ∧ W.ownsRow w5.heap.size 2 1 (.slice A R.out.length c) R.out.length (R.out.map (Value.int .i64))), .n (fun v => ∃ b : Nat, v = .pointer (some ⟨b, 0, none⟩)) (fun W v => ∃ b : Nat, v = .pointer (some ⟨b, 0, none⟩) ∧ w5.heap.size ≤ b ∧ W.heap[b]? = some (.cells #[.int .i64 0, .slice none 0 0, .string ⟨#[]⟩, .int .i64 0, .int .i64 0, .slice none 0 0, .string ⟨#[]⟩, .int .i64 0] 48 (0, 0)))] (by kernel_rfl) (by kernel_rfl) (by kernel_rfl) ⟨(Below.refl _ _).drew⟩ (fun _ => .refl _ _) ?hex9 ?hst9 ?hrun9
  case hex9 =>
    simp only [ExS, Sp.pure]
    repeat' first | exact trivial | refine And.intro ?_ ?_ | exact ⟨_, rfl⟩ | exact ⟨_, none, 0, rfl⟩ | exact ⟨_, 0, rfl⟩
  case hst9 =>
    simp only [StS, Sp.inW]
    repeat' first | exact trivial | refine And.intro ?_ ?_ | (intro W W' v hS hR hi; first | exact trivial | (obtain ⟨A, c, rfl, h1⟩ := hi; exact ⟨A, c, rfl, own_mv h1 hR⟩) | (obtain ⟨b, rfl, h0, h1⟩ := hi; exact ⟨b, rfl, h0, (hR.block b (Array.getElem?_eq_some_iff.1 h1).1).trans h1⟩))
  simp only [List.toList_toArray]
  refine hos_k (fun W hS hk => ?_) ?_
  · clear hk
    go_simp
    first | done | rfl
  simp only [Act.put, List.setIfInBounds_toArray, List.set_cons_zero, List.set_cons_succ]
  refine hos_k (fun W hS hk => ?_) ?_
  · have hh := row_facts ((hS.out.block (w1.heap.size + 1) (Array.getElem?_eq_some_iff.1 ho5.out).1).trans ho5.out)
    have j0 := hh.1 0
    simp at j0
    clear hk hh
    go_simp
    first | done | rfl
  simp only [Act.put, List.setIfInBounds_toArray, List.set_cons_zero, List.set_cons_succ]
  refine hos_k (fun W hS hk => ?_) ?_
  · clear hk
    go_simp
    first | done | rfl
  simp only [Act.put, List.setIfInBounds_toArray, List.set_cons_zero, List.set_cons_succ]
  refine hos_k (fun W hS hk => ?_) ?_
  · have hh := row_facts ((hS.out.block (w1.heap.size + 1) (Array.getElem?_eq_some_iff.1 ho5.out).1).trans ho5.out)
    have j1 := hh.1 1
    simp at j1
    clear hk hh
    go_simp
    first | done | rfl
  simp only [Act.put, List.setIfInBounds_toArray, List.set_cons_zero, List.set_cons_succ]
  refine hos_k (fun W hS hk => ?_) ?_
  · clear hk
    go_simp
    first | done | rfl
  simp only [Act.put, List.setIfInBounds_toArray, List.set_cons_zero, List.set_cons_succ]
  refine hos_k (fun W hS hk => ?_) ?_
  · have hh := row_facts ((hS.out.block (w1.heap.size + 1) (Array.getElem?_eq_some_iff.1 ho5.out).1).trans ho5.out)
    have j2 := hh.1 2
    simp at j2
    clear hk hh
    go_simp
    first | done | rfl
  simp only [Act.put, List.setIfInBounds_toArray, List.set_cons_zero, List.set_cons_succ]
  refine hos_k (fun W hS hk => ?_) ?_
  · have hh := row_facts ((hS.out.block w3.heap.size (Array.getElem?_eq_some_iff.1 hr5.out).1).trans hr5.out)
    have j0 := hh.1 0
    have j1 := hh.1 1
    have j2 := hh.1 2
    have j3 := hh.1 3
    have j4 := hh.1 4
    simp at j0 j1 j2 j3 j4
    clear hk hh
    go_simp
    first | done | rfl
  simp only [Act.put, List.setIfInBounds_toArray, List.set_cons_zero, List.set_cons_succ]
  refine hos_n (fun W hS hk => ?_) ?_
  · refine opH_call 24 #[.agg #[.int .i64 R.code, .int .i64 R.value, .slice A3 R.out.length c3, .string R.mem, .int .i64 R.steps]] ?_ ?_
    · clear hk
      go_simp
      first | done | rfl
    · refine (c_Seen R [.int .i64 R.code, .int .i64 R.value, .slice A3 R.out.length c3, .string R.mem, .int .i64 R.steps] W (hk5.out.mv8 hS.out)).mono ?_
      rintro e w' ⟨v, rfl, ho, hb1⟩
      simp only [seenR] at ho
      obtain ⟨A, c, rfl, -, -, -, -⟩ := own_shape ho
      exact ⟨_, rfl, ⟨A, c, rfl⟩, ⟨A, c, rfl, own_lower ho hS.out.size⟩, ⟨hS.out.then hb1⟩, hb1⟩
  rintro _ ⟨A9, c9, rfl⟩
  simp only [Act.put, List.setIfInBounds_toArray, List.set_cons_zero, List.set_cons_succ]
  refine hos_n (fun W hS hk => ?_) ?_
  · obtain ⟨hk1, -⟩ := hk
    obtain ⟨A', c', he, ho⟩ := hk1 (by kernel_rfl)
    have he' : Value.slice A9 R.out.length c9 = .slice A' R.out.length c' := by injection he with he; simpa using he
    rw [← he'] at ho
    refine opH_val (.agg #[.int .i64 x.func, .slice A1 x.args.length c1, .string x.mem, .int .i64 R.code, .int .i64 R.value, .slice A9 R.out.length c9, .string R.mem, .int .i64 0]) W ?_ ⟨⟨_, _, rfl⟩, ⟨_, _, rfl, ho⟩, hS, .refl _ _⟩
    clear hk1 ho he he'
    go_simp
    first | done | rfl
  rintro _ ⟨B9, d9, rfl⟩
  simp only [Act.put, List.setIfInBounds_toArray, List.set_cons_zero, List.set_cons_succ]
  refine hos_n (fun W hS hk => ?_) ?_
  · refine opH_val (.pointer (some ⟨W.heap.size, 0, none⟩)) (W.alloc (.cells #[.int .i64 0, .slice none 0 0, .string ⟨#[]⟩, .int .i64 0, .int .i64 0, .slice none 0 0, .string ⟨#[]⟩, .int .i64 0] 48)) ?_ ⟨⟨_, rfl⟩, ⟨_, rfl, hS.out.size, heap_new _ _ _ _ rfl⟩, ⟨hS.out.al hS.out.size _⟩, (Below.refl _ _).al (Nat.le_refl _) _⟩
    clear hk
    go_simp
    first | done | rfl
  rintro _ ⟨b9, rfl⟩
  simp only [Act.put, List.setIfInBounds_toArray, List.set_cons_zero, List.set_cons_succ]
  refine hos_end (fun W hS hal => ?_)
  obtain ⟨-, ⟨A', c', he, ho⟩, ⟨bb, he2, hbb, hz⟩, -⟩ := hal
  have he' : Value.slice B9 R.out.length d9 = .slice A' R.out.length c' := by injection he with he; simpa using he
  rw [← he'] at ho
  cases he2
  clear he he'
  have y := row_facts hz
  have y0 := y.1 0
  have y1 := y.1 1
  have y2 := y.1 2
  have y3 := y.1 3
  have y4 := y.1 4
  have y5 := y.1 5
  have y6 := y.1 6
  have y7 := y.1 7
  have yf := y.2
  simp at y0 y1 y2 y3 y4 y5 y6 y7
  have hlz := (Array.getElem?_eq_some_iff.1 hz).1
  obtain ⟨w6, hX⟩ : ∃ X : World, X = ((((((((W.setCell ⟨b9, 0, none⟩ (.int .i64 x.func)).setCell ⟨b9, 1, none⟩ (.slice A1 x.args.length c1)).setCell ⟨b9, 2, none⟩ (.string x.mem)).setCell ⟨b9, 3, none⟩ (.int .i64 R.code)).setCell ⟨b9, 4, none⟩ (.int .i64 R.value)).setCell ⟨b9, 5, none⟩ (.slice B9 R.out.length d9)).setCell ⟨b9, 6, none⟩ (.string R.mem)).setCell ⟨b9, 7, none⟩ (.int .i64 0)) := ⟨_, rfl⟩
  have hFz : Fr (fun q => q = b9) W w6 := by
    rw [hX]
    exact ((((((((Fr.set W b9 0 _).go (Fr.set _ b9 1 _) fun q e => .inl e).go (Fr.set _ b9 2 _) fun q e => .inl e).go (Fr.set _ b9 3 _) fun q e => .inl e).go (Fr.set _ b9 4 _) fun q e => .inl e).go (Fr.set _ b9 5 _) fun q e => .inl e).go (Fr.set _ b9 6 _) fun q e => .inl e).go (Fr.set _ b9 7 _) fun q e => .inl e)
  have hbx9 := Hd.mk (show w6.heap[b9]? = some (.cells #[.int .i64 x.func, .slice A1 x.args.length c1, .string x.mem, .int .i64 R.code, .int .i64 R.value, .slice B9 R.out.length d9, .string R.mem, .int .i64 0] 48 (0, 0)) by
    rw [hX]
    exact (heap_set (heap_set (heap_set (heap_set (heap_set (heap_set (heap_set (heap_set hz)))))))).trans (by simp))
  have hBx9 := Hd.mk ((Fr.of (fun q => q = b9) hS.out).go hFz (fun q e => .inl e) |>.below (Nat.le_refl _) (fun q hq e => by omega))
  have hox9 := Hd.mk (own_fr ho hFz (fun q hq e => by subst e; exact own_noT ho hz (by decide) _ hq rfl))
  have hlb9 : w5.heap.size ≤ b9 := hbb
  have hX' := Hd.mk hX
  clear hX hFz hz hS ho y hbb
  refine tail_skip rfl _ (by go_simp; first | done | rfl) ?_
  simp only [Act.put, List.setIfInBounds_toArray, List.set_cons_zero, List.set_cons_succ]
  rw [← hX'.out]
  clear hX' y0 y1 y2 y3 y4 y5 y6 y7 yf hlz
  have hl56 := hBx9.out.size
  have ho6 := Hd.mk ((hBx9.out.block _ (Array.getElem?_eq_some_iff.1 ho5.out).1).trans ho5.out)
  have hr6 := Hd.mk ((hBx9.out.block _ (Array.getElem?_eq_some_iff.1 hr5.out).1).trans hr5.out)
  have hz1 := (Array.getElem?_eq_some_iff.1 ho5.out).1
  have hz3 := (Array.getElem?_eq_some_iff.1 hr5.out).1
  have hz8 := (Array.getElem?_eq_some_iff.1 hbx8.out).1
  have hz9 := (Array.getElem?_eq_some_iff.1 hbx9.out).1
  have hwv : IntKind.i64.wrap (R.value + 1) = R.value + 1 := IntWalk.i64_in _ (by omega)
  obtain ⟨w7, hw7⟩ : ∃ X : World, X = w6.setCell ⟨b9, 4, none⟩ (.int .i64 (R.value + 1)) := ⟨_, rfl⟩
  have h57 : Below w5.heap.size w5 w7 := by rw [hw7]; exact hBx9.out.setCell (p := ⟨b9, 4, none⟩) hlb9 _
  have hb97 := Hd.mk (show w7.heap[b9]? = some (.cells #[.int .i64 x.func, .slice A1 x.args.length c1, .string x.mem, .int .i64 R.code, .int .i64 (R.value + 1), .slice B9 R.out.length d9, .string R.mem, .int .i64 0] 48 (0, 0)) by rw [hw7]; exact (heap_set hbx9.out).trans (by simp))
  have ho97 := Hd.mk (show w7.ownsRow w5.heap.size 2 1 (.slice B9 R.out.length d9) R.out.length (R.out.map (Value.int .i64)) by rw [hw7]; exact own_fr hox9.out (Fr.set _ _ _ _) (fun q hq e => own_noT hox9.out hbx9.out (by decide) _ hq e))
  have ho87 := Hd.mk (own_mv hox8.out h57)
  have h07 := (h04.out.then hBx8.out).then h57
  have hr7 := hra.out.mv h07
  have hro7 := hro.out.mv h07
  have hm7 := Hd.mk ((h57.block _ (Array.getElem?_eq_some_iff.1 hm5.out).1).trans hm5.out)
  have hb87 := Hd.mk ((h57.block _ hz8).trans hbx8.out)
  have hB7 := Hd.mk ((hB4.out.then hBx8.out).then h57)
  have hp := l_alike R x.want [.int .i64 R.code, .int .i64 R.value, .slice A3 R.out.length c3, .string R.mem, .int .i64 R.steps] [.int .i64 x.want.code, .int .i64 x.want.value, .slice A2 x.want.out.length c2, .string x.want.mem, .int .i64 x.want.steps] w7 (hk5.out.mv8 h57) ⟨_, rfl, hro7⟩
  rw [← hwt'.out] at hp
  have h07' := Hd.mk h07
  have hw7' := Hd.mk hw7
  have e6 := row_facts hbx9.out
  have s4 := e6.1 4
  have sf := e6.2
  have q6 := row_facts ho6.out
  have q3 := q6.1 3
  have q4 := q6.1 4
  have q5 := q6.1 5
  have q7 := q6.1 7
  have q8 := q6.1 6
  have t6 := row_facts hr6.out
  have t0 := t6.1 0
  have t1 := t6.1 1
  have t2 := t6.1 2
  have t3 := t6.1 3
  have t4 := t6.1 4
  simp at s4 q3 q4 q5 q7 q8 t0 t1 t2 t3 t4
  have ne1 : w1.heap.size + 1 ≠ b9 := by omega
  have ne2 : b9 ≠ w1.heap.size + 1 := by omega
  have ne3 : w3.heap.size ≠ b9 := by omega
  have ne4 : b9 ≠ w3.heap.size := by omega
  have hl61 : w1.heap.size + 1 < w6.heap.size := by omega
  have hl63 : w3.heap.size < w6.heap.size := by omega
  clear hw7 h57 hr7 hro7 h07 e6 q6 t6
  go_wp2_with fail
  rw [← hw7'.out]
  refine hp.mono ?_; rintro e w8 ⟨rfl, hb8⟩
  have hm8 := Hd.mk ((hb8.block _ (Array.getElem?_eq_some_iff.1 hm7.out).1).trans hm7.out)
  have hb88 := Hd.mk ((hb8.block _ (Array.getElem?_eq_some_iff.1 hb87.out).1).trans hb87.out)
  have hb98 := Hd.mk ((hb8.block _ (Array.getElem?_eq_some_iff.1 hb97.out).1).trans hb97.out)
  have h08 := Hd.mk (h07'.out.then hb8)
  have hB8 := Hd.mk (hB7.out.then hb8)
  have ho88 := Hd.mk (own_mv ho87.out hb8)
  have ho98 := Hd.mk (own_mv ho97.out hb8)
  have m0 := (row_facts hm8.out).1 0
  simp at m0
  have u0 := (row_facts hb88.out).1 0
  have u1 := (row_facts hb88.out).1 1
  have u2 := (row_facts hb88.out).1 2
  have u3 := (row_facts hb88.out).1 3
  have u4 := (row_facts hb88.out).1 4
  have u5 := (row_facts hb88.out).1 5
  have u6 := (row_facts hb88.out).1 6
  have u7 := (row_facts hb88.out).1 7
  simp at u0 u1 u2 u3 u4 u5 u6 u7
  have hp := c_Holds m [.slice AF nF cF] ⟨x.func, x.args, x.mem, seenR R⟩ [.int .i64 x.func, .slice A1 x.args.length c1, .string x.mem, .int .i64 R.code, .int .i64 R.value, .slice B8 R.out.length d8, .string R.mem, .int .i64 0] w8 (KM.mv hkm'.out h08.out) ⟨_, _, rfl, hra.out.mv h08.out, (OwI.of ho88.out).rd hout⟩ hms'
  rw [hown'.out] at hp
  clear hb8 s4 sf q3 q4 q5 q7 q8 t0 t1 t2 t3 t4 ne1 ne2 ne3 ne4 hl61 hl63 hwv
  go_wp2_with fail
  refine hp.mono ?_; rintro e w9 ⟨rfl, hb9⟩
  have hm9 := Hd.mk ((hb9.block _ (Array.getElem?_eq_some_iff.1 hm8.out).1).trans hm8.out)
  have hb99 := Hd.mk ((hb9.block _ (Array.getElem?_eq_some_iff.1 hb98.out).1).trans hb98.out)
  have h09 := Hd.mk (h08.out.then hb9)
  have hB9 := Hd.mk (hB8.out.then hb9)
  have ho99 := Hd.mk (own_mv ho98.out hb9)
  replace m0 := (row_facts hm9.out).1 0
  simp at m0
  clear u0 u1 u2 u3 u4 u5 u6 u7
  have u0 := (row_facts hb99.out).1 0
  have u1 := (row_facts hb99.out).1 1
  have u2 := (row_facts hb99.out).1 2
  have u3 := (row_facts hb99.out).1 3
  have u4 := (row_facts hb99.out).1 4
  have u5 := (row_facts hb99.out).1 5
  have u6 := (row_facts hb99.out).1 6
  have u7 := (row_facts hb99.out).1 7
  simp at u0 u1 u2 u3 u4 u5 u6 u7
  have hp := c_Holds m [.slice AF nF cF] ⟨x.func, x.args, x.mem, ⟨R.code, R.value + 1, R.out, R.mem, 0⟩⟩ [.int .i64 x.func, .slice A1 x.args.length c1, .string x.mem, .int .i64 R.code, .int .i64 (R.value + 1), .slice B9 R.out.length d9, .string R.mem, .int .i64 0] w9 (KM.mv hkm'.out h09.out) ⟨_, _, rfl, hra.out.mv h09.out, (OwI.of ho99.out).rd hout⟩ hms'
  rw [hoth.out] at hp
  clear hb9
  go_wp2_with fail
  refine hp.mono ?_; rintro e w10 ⟨rfl, hb10⟩
  have hB10 := hB9.out.then hb10
  go_wp2
  go_ret
  exact ⟨rfl, hB10⟩
end Go.Proofs.YtkcgejbnhpccdaaGreat
