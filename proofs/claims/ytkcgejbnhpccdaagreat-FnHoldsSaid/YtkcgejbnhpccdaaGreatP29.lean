import Derived.Test.YtkcgejbnhpccdaaGreatP28
import Derived.Test.YtkcgejbnhpccdaaGreatP17
import Derived.Test.YtkcgejbnhpccdaaGreatP01
import Derived.Deep.RegionHeld3
import Derived.Test.YtkcgejbnhpccdaaGreatP07
set_option linter.unusedSimpArgs false
set_option linter.unusedVariables false
namespace Go.Proofs.YtkcgejbnhpccdaaGreat
open Go.RowKit
set_option maxHeartbeats 1000000 in
theorem l_sameInts (v u : Value) (xs ys : List Int) (w : World) (hv : RI lm w v xs) (hu : RI lm w u ys) : Calls Tryz.prog 19 #[v, u] w (Ret (.bool (decide (xs = ys))) w) := by
  obtain ⟨A1, c1, rfl, -, hl1, hv0⟩ := hv.sm
  obtain ⟨A2, c2, rfl, -, hl2, hu0⟩ := hu.sm
  clear hv hu
  by_cases hlen : xs.length = ys.length
  rotate_left
  · rw [decide_eq_false (len_ne hlen)]
    have d : ((xs.length : Int) != (ys.length : Int)) = true := by simp; omega
    go_enter Tryz.func19, Tryz.ntmps19
    go_wp2
    go_ret
    exact ⟨rfl, Below.refl _ _⟩
  obtain ⟨n, hn⟩ : ∃ n, n = xs.length := ⟨_, rfl⟩
  have hn2 : n = ys.length := hn.trans hlen
  rw [← hn, ← hn2]
  rw [← hn] at hv0 hl1
  rw [← hn2] at hu0
  have hn' := Hd.mk hn
  have hn2' := Hd.mk hn2
  clear hn hn2 hlen hl2
  go_enter Tryz.func19, Tryz.ntmps19
  go_wp2
  go_loopw [5] (fun s5 wr => ∃ k : Nat, k ≤ n ∧ s5 = .int .i64 k ∧ Hd (xs.take k = ys.take k) ∧ Hd (Below w.heap.size w wr)) (fun s5 _ => n - (intOf s5).toNat)
  case atStart => exact ⟨0, Nat.zero_le _, rfl, ⟨by simp⟩, ⟨Below.refl _ _⟩⟩
  case round =>
    obtain ⟨k, hk, rfl, hall, hbr⟩ := hrel
    by_cases hlt : k < n
    · obtain ⟨b, off, cs, hA, hbl, hk1, hat⟩ := hv0.out.in0 hbr.out k (by have := hn'.out; omega)
      cases hA
      cases hk1
      have g0 := hat 0 _ rfl
      simp at g0
      clear hat
      obtain ⟨b2, off2, cs, hA, hbl2, hk1, hat⟩ := hu0.out.in0 hbr.out k (by have := hn2'.out; omega)
      cases hA
      cases hk1
      have f0 := hat 0 _ rfl
      simp at f0
      clear hat
      have hz : (k : Int) < (n : Int) := by omega
      have hz0 : (0 : Int) ≤ (k : Int) := by omega
      by_cases he : xs[k]'(by have := hn'.out; omega) = ys[k]'(by have := hn2'.out; omega)
      · have ht := Hd.mk (take_eq hall.out (by have := hn'.out; omega) (by have := hn2'.out; omega) he)
        generalize xs[k]'_ = x at *
        subst he
        go_wp2
        go_quiet (fail)
        go_wp2
        go_roundw
        case rel => exact ⟨k + 1, by omega, by go_num, ht, ⟨pw_drewN hbr.out _⟩⟩
        case measure => simp [intOf]; omega
      · have hne := Hd.mk (el_ne _ _ he)
        have d := bneT he
        generalize xs[k]'_ = x at *
        generalize ys[k]'_ = y at *
        clear he
        go_wp2
        go_quiet (fail)
        go_wp2
        go_ret
        exact ⟨by rw [decide_eq_false hne.out]; rfl, pw_drewN hbr.out _⟩
    · have e : k = n := by omega
      subst e
      go_wp2
      go_ret
      exact ⟨by rw [decide_eq_true (take_all hall.out hn'.out hn2'.out)]; rfl, hbr.out⟩
set_option maxHeartbeats 4000000 in
theorem l_sameResult (x y : XRes) (cs ds : List Value) (w : World) (hx : KRes w x cs) (hy : KRes w y ds) : Calls Tryz.prog 16 #[.agg cs.toArray, .agg ds.toArray] w (Ret (.bool (decide (x = y))) w) := by
  obtain ⟨v1, rfl, r1⟩ := hx
  obtain ⟨u1, rfl, s1⟩ := hy
  have hbl := fun o o' => ((Below.refl w.heap.size w).al (Nat.le_refl _) o).al (by simp) o'
  obtain ⟨xcode, xvalue, xout, xmem, xsteps⟩ := x
  obtain ⟨ycode, yvalue, yout, ymem, ysteps⟩ := y
  simp only at *
  have hd : decide (XRes.mk xcode xvalue xout xmem xsteps = XRes.mk ycode yvalue yout ymem ysteps) = (xcode == ycode && xvalue == yvalue && decide (xout = yout) && xmem.toList == ymem.toList && xsteps == ysteps) := by
    rw [bytes_beq']
    by_cases h1 : xcode = ycode
    · by_cases h2 : xvalue = yvalue
      · by_cases h3 : xout = yout
        · by_cases h4 : xmem = ymem
          · by_cases h5 : xsteps = ysteps
            · rw [decide_eq_true (by rw [h1, h2, h3, h4, h5])]; simp [h1, h2, h3, h4, h5]
            · rw [decide_eq_false (by intro e; injection e; contradiction)]; simp [h5]
          · rw [decide_eq_false (by intro e; injection e; contradiction)]; simp [h4]
        · rw [decide_eq_false (by intro e; injection e; contradiction)]; simp [h3]
      · rw [decide_eq_false (by intro e; injection e; contradiction)]; simp [h2]
    · rw [decide_eq_false (by intro e; injection e; contradiction)]; simp [h1]
  rw [hd]
  clear hd
  have z1 := fun W hW => l_sameInts v1 u1 xout yout W (r1.mv hW) (s1.mv hW)
  clear r1 s1
  generalize decide (xout = yout) = b3 at *
  cases h1 : xcode == ycode with
  | false =>
    go_enter Tryz.func16, Tryz.ntmps16
    go_wp2
    go_ret
    exact ⟨by simp, hbl _ _⟩
  | true =>
    cases h2 : xvalue == yvalue with
    | false =>
      go_enter Tryz.func16, Tryz.ntmps16
      go_wp2
      go_ret
      exact ⟨by simp, hbl _ _⟩
    | true =>
      cases b3 with
      | false =>
        go_enter Tryz.func16, Tryz.ntmps16
        go_wp2_with fail
        refine (z1 _ (hbl _ _)).mono ?_; rintro e w1 ⟨rfl, hb1⟩
        have x3 := bat hb1 w.heap.size (by first | (simp; done) | (simp; omega)) 3
        have x4 := bat hb1 w.heap.size (by first | (simp; done) | (simp; omega)) 4
        have y3 := bat hb1 (w.heap.size + 1) (by first | (simp; done) | (simp; omega)) 3
        have y4 := bat hb1 (w.heap.size + 1) (by first | (simp; done) | (simp; omega)) 4
        have hbw := Hd.mk ((hbl _ _).then hb1)
        simp at x3 x4 y3 y4
        go_wp2
        go_ret
        exact ⟨by simp, hbw.out⟩
      | true =>
        cases h4 : xmem.toList == ymem.toList with
        | false =>
          go_enter Tryz.func16, Tryz.ntmps16
          go_wp2_with fail
          refine (z1 _ (hbl _ _)).mono ?_; rintro e w1 ⟨rfl, hb1⟩
          have x3 := bat hb1 w.heap.size (by first | (simp; done) | (simp; omega)) 3
          have x4 := bat hb1 w.heap.size (by first | (simp; done) | (simp; omega)) 4
          have y3 := bat hb1 (w.heap.size + 1) (by first | (simp; done) | (simp; omega)) 3
          have y4 := bat hb1 (w.heap.size + 1) (by first | (simp; done) | (simp; omega)) 4
          have hbw := Hd.mk ((hbl _ _).then hb1)
          simp at x3 x4 y3 y4
          go_wp2
          go_ret
          exact ⟨by simp, hbw.out⟩
        | true =>
          cases h5 : xsteps == ysteps with
          | false =>
            go_enter Tryz.func16, Tryz.ntmps16
            go_wp2_with fail
            refine (z1 _ (hbl _ _)).mono ?_; rintro e w1 ⟨rfl, hb1⟩
            have x3 := bat hb1 w.heap.size (by first | (simp; done) | (simp; omega)) 3
            have x4 := bat hb1 w.heap.size (by first | (simp; done) | (simp; omega)) 4
            have y3 := bat hb1 (w.heap.size + 1) (by first | (simp; done) | (simp; omega)) 3
            have y4 := bat hb1 (w.heap.size + 1) (by first | (simp; done) | (simp; omega)) 4
            have hbw := Hd.mk ((hbl _ _).then hb1)
            simp at x3 x4 y3 y4
            go_wp2
            go_ret
            exact ⟨by simp, hbw.out⟩
          | true =>
            go_enter Tryz.func16, Tryz.ntmps16
            go_wp2_with fail
            refine (z1 _ (hbl _ _)).mono ?_; rintro e w1 ⟨rfl, hb1⟩
            have x3 := bat hb1 w.heap.size (by first | (simp; done) | (simp; omega)) 3
            have x4 := bat hb1 w.heap.size (by first | (simp; done) | (simp; omega)) 4
            have y3 := bat hb1 (w.heap.size + 1) (by first | (simp; done) | (simp; omega)) 3
            have y4 := bat hb1 (w.heap.size + 1) (by first | (simp; done) | (simp; omega)) 4
            have hbw := Hd.mk ((hbl _ _).then hb1)
            simp at x3 x4 y3 y4
            go_wp2
            go_ret
            exact ⟨by simp, hbw.out⟩
def seenR (x : XRes) : XRes := ⟨x.code, x.value, x.out, x.mem, 0⟩
set_option maxHeartbeats 4000000 in
theorem c_Seen (x : XRes) (cs : List Value) (w : World) (hx : KRes w x cs) : Calls Tryz.prog 24 #[.agg cs.toArray] w (RetRes (seenR x) w) := by
  obtain ⟨v1, rfl, r1⟩ := hx
  have hbl := fun o o' => ((Below.refl w.heap.size w).al (Nat.le_refl _) o).al (by simp) o'
  have z1 := fun W hW => c_Clone v1 x.out W (r1.mv hW)
  clear r1
  go_enter Tryz.func24, Tryz.ntmps24
  go_wp2_with fail
  refine (z1 _ (hbl _ _)).mono ?_; rintro e w1 ⟨v, rfl, ho, hb1⟩
  have hB1 := (hbl _ _).then hb1
  have k0_1 := bat hb1 w.heap.size (by first | (simp; done) | (simp; omega))
  have f0_1 := fat hb1 w.heap.size (by first | (simp; done) | (simp; omega))
  have k1_1 := bat hb1 (w.heap.size + 1) (by first | (simp; done) | (simp; omega))
  have f1_1 := fat hb1 (w.heap.size + 1) (by first | (simp; done) | (simp; omega))
  have hz1 := hb1.size
  simp at k0_1 f0_1 k1_1 f1_1 hz1
  obtain ⟨A1, c1, rfl, -, -⟩ := own_shape ho
  have ho' := Hd.mk ho
  clear ho
  go_wp2
  refine bodyPost_ret (v := .agg #[.int .i64 x.code, .int .i64 x.value, .slice A1 x.out.length c1, .string x.mem, .int .i64 0]) (by simp [results, Tryz.results24, go_sem, k1_1]) rfl ⟨_, rfl, own_lower (own_abv ho'.out (Nat.le_refl _) ?h1) (by first | (simp; done) | (simp; omega)), ?h2⟩
  case h1 =>
    repeat (refine Abv.setCell ?_ (by first | (simp; done) | (simp; omega)) _)
    exact Abv.refl _ _
  case h2 =>
    repeat (refine Below.setCell ?_ (by first | (simp; done) | (simp; omega)) _)
    exact hB1
def alikeR (x y : XRes) : Bool := decide (seenR x = seenR y)
theorem KRes.mv7 {w w' : World} {x : XRes} {cs : List Value} (h : KRes w x cs) (hb : Below w.heap.size w w') : KRes w' x cs := by
  obtain ⟨v, rfl, r⟩ := h; exact ⟨v, rfl, r.mv hb⟩
theorem res_K7 {base : Nat} {w : World} {x : XRes} {v : Value} (h : w.ownsRow base 2 1 v x.out.length (x.out.map (Value.int .i64))) (hl : x.out.length ≤ lm) : KRes w x [.int .i64 x.code, .int .i64 x.value, v, .string x.mem, .int .i64 x.steps] := ⟨v, rfl, (OwI.of h).rd hl⟩
theorem undrewK {w w' : World} (h : Below w.drew.heap.size w.drew w') : Below w.heap.size w w' := ⟨h.os, h.tape, h.output, h.size, h.block⟩
theorem redrewK {B : Nat} {w w' : World} (h : Below B w w') : Below B w w'.drew := ⟨h.os, h.tape, h.output, h.size, h.block⟩
set_option maxRecDepth 40000 in
set_option maxHeartbeats 8000000 in
theorem l_alike (x y : XRes) (cs ds : List Value) (w : World) (hx : KRes w x cs) (hy : KRes w y ds) : Calls Tryz.prog 17 #[.agg cs.toArray, .agg ds.toArray] w (Ret (.bool (alikeR x y)) w) := by
  have hx' := Hd.mk hx
  have hy' := Hd.mk hy
  obtain ⟨v1, rfl, r1⟩ := hx
  obtain ⟨u1, rfl, s1⟩ := hy
  obtain ⟨A1, c1, rfl, -, hl1, -⟩ := r1.sm
  obtain ⟨A2, c2, rfl, -, hl2, -⟩ := s1.sm
  clear r1 s1
  have hc1 := fun W (hW : Below w.heap.size w W) => c_Seen x _ W (KRes.mv7 hx'.out hW)
  have hc2 := fun W (hW : Below w.heap.size w W) => c_Seen y _ W (KRes.mv7 hy'.out hW)
  unfold alikeR
  have hs := fun W cs ds hx hy => l_sameResult (seenR x) (seenR y) cs ds W hx hy
  generalize decide (seenR x = seenR y) = T at *
  obtain ⟨W0, hW0⟩ : ∃ W0 : World, W0 = (w.alloc (.cells #[.int .i64 x.code, .int .i64 x.value, .slice A1 x.out.length c1, .string x.mem, .int .i64 x.steps] 40)).alloc (.cells #[.int .i64 y.code, .int .i64 y.value, .slice A2 y.out.length c2, .string y.mem, .int .i64 y.steps] 40) := ⟨_, rfl⟩
  have hB0 : Hd (Below w.heap.size w W0) := ⟨by rw [hW0]; exact ((Below.refl w.heap.size w).al (Nat.le_refl _) _).al (by simp) _⟩
  have hz0 : w.heap.size + 1 < W0.heap.size := by rw [hW0]; simp
  have hzo : Hd (∀ j u, [Value.int .i64 x.code, .int .i64 x.value, .slice A1 x.out.length c1, .string x.mem, .int .i64 x.steps][j]? = some u → W0.cell? ⟨w.heap.size, j, none⟩ = some u) := ⟨fun j u hu => by rw [hW0]; exact (World.cell?_alloc_past _ _ _ (by first | omega | (simp; done) | (simp; omega))).trans (new_cell _ _ _ (by simp) j u (by simpa using hu))⟩
  have hzp : Hd (∀ j u, [Value.int .i64 y.code, .int .i64 y.value, .slice A2 y.out.length c2, .string y.mem, .int .i64 y.steps][j]? = some u → W0.cell? ⟨w.heap.size + 1, j, none⟩ = some u) := ⟨fun j u hu => by rw [hW0]; exact new_cell _ _ _ (by simp) j u (by simpa using hu)⟩
  have x0_0 := hzo.out 0 _ rfl
  have y0_0 := hzp.out 0 _ rfl
  have x1_0 := hzo.out 1 _ rfl
  have y1_0 := hzp.out 1 _ rfl
  have x2_0 := hzo.out 2 _ rfl
  have y2_0 := hzp.out 2 _ rfl
  have x3_0 := hzo.out 3 _ rfl
  have y3_0 := hzp.out 3 _ rfl
  have x4_0 := hzo.out 4 _ rfl
  have y4_0 := hzp.out 4 _ rfl
  have hB0' := redrewK hB0.out
  have hW0' := Hd.mk hW0
  clear hW0
  go_enter Tryz.func17, Tryz.ntmps17
  go_wp2_with fail
  rw [← hW0'.out]
  go_region_held3 (fun W => W.cell? ⟨w.heap.size, 0, none⟩ = some (.int .i64 x.code) ∧ W.cell? ⟨w.heap.size, 1, none⟩ = some (.int .i64 x.value) ∧ W.cell? ⟨w.heap.size, 2, none⟩ = some (.slice A1 x.out.length c1) ∧ W.cell? ⟨w.heap.size, 3, none⟩ = some (.string x.mem) ∧ W.cell? ⟨w.heap.size, 4, none⟩ = some (.int .i64 x.steps) ∧ W.cell? ⟨w.heap.size + 1, 0, none⟩ = some (.int .i64 y.code) ∧ W.cell? ⟨w.heap.size + 1, 1, none⟩ = some (.int .i64 y.value) ∧ W.cell? ⟨w.heap.size + 1, 2, none⟩ = some (.slice A2 y.out.length c2) ∧ W.cell? ⟨w.heap.size + 1, 3, none⟩ = some (.string y.mem) ∧ W.cell? ⟨w.heap.size + 1, 4, none⟩ = some (.int .i64 y.steps))
    (first | exact ⟨x0_0, x1_0, x2_0, x3_0, x4_0, y0_0, y1_0, y2_0, y3_0, y4_0⟩ | exact ⟨x0_1, x1_1, x2_1, x3_1, x4_1, y0_1, y1_1, y2_1, y3_1, y4_1⟩ | exact ⟨x0_2, x1_2, x2_2, x3_2, x4_2, y0_2, y1_2, y2_2, y3_2, y4_2⟩ | exact ⟨x0_3, x1_3, x2_3, x3_3, x4_3, y0_3, y1_3, y2_3, y3_3, y4_3⟩)
    (first
      | (go_at_call 24
         first
         | (refine (hc1 _ hB0').mono ?_; rintro e w1 ⟨V1, rfl, ho1, hb1⟩
            replace hb1 := undrewK hb1
            have hB1 := hB0.out.then hb1
            have hk1 := res_K7 ho1 (show (seenR x).out.length ≤ lm from hl1)
            unfold resV
            have z1 := hb1.size
            have x0_1 := (bat hb1 w.heap.size (by omega) 0).trans x0_0
            have x1_1 := (bat hb1 w.heap.size (by omega) 1).trans x1_0
            have x2_1 := (bat hb1 w.heap.size (by omega) 2).trans x2_0
            have x3_1 := (bat hb1 w.heap.size (by omega) 3).trans x3_0
            have x4_1 := (bat hb1 w.heap.size (by omega) 4).trans x4_0
            have y0_1 := (bat hb1 (w.heap.size + 1) (by omega) 0).trans y0_0
            have y1_1 := (bat hb1 (w.heap.size + 1) (by omega) 1).trans y1_0
            have y2_1 := (bat hb1 (w.heap.size + 1) (by omega) 2).trans y2_0
            have y3_1 := (bat hb1 (w.heap.size + 1) (by omega) 3).trans y3_0
            have y4_1 := (bat hb1 (w.heap.size + 1) (by omega) 4).trans y4_0)
         | (refine (hc2 _ hB1).mono ?_; rintro e w2 ⟨V2, rfl, ho2, hb2⟩
            have hk2 := res_K7 ho2 (show (seenR y).out.length ≤ lm from hl2)
            unfold resV
            have z2 := hb2.size
            have hs2 := hs w2 _ _ (KRes.mv7 hk1 hb2) hk2
            have x0_2 := (bat hb2 w.heap.size (by omega) 0).trans x0_1
            have x1_2 := (bat hb2 w.heap.size (by omega) 1).trans x1_1
            have x2_2 := (bat hb2 w.heap.size (by omega) 2).trans x2_1
            have x3_2 := (bat hb2 w.heap.size (by omega) 3).trans x3_1
            have x4_2 := (bat hb2 w.heap.size (by omega) 4).trans x4_1
            have y0_2 := (bat hb2 (w.heap.size + 1) (by omega) 0).trans y0_1
            have y1_2 := (bat hb2 (w.heap.size + 1) (by omega) 1).trans y1_1
            have y2_2 := (bat hb2 (w.heap.size + 1) (by omega) 2).trans y2_1
            have y3_2 := (bat hb2 (w.heap.size + 1) (by omega) 3).trans y3_1
            have y4_2 := (bat hb2 (w.heap.size + 1) (by omega) 4).trans y4_1))
      | (go_at_call 16
         refine hs2.mono ?_; rintro e w3 ⟨rfl, hb3⟩
         have x0_3 := (bat hb3 w.heap.size (by omega) 0).trans x0_2
         have x1_3 := (bat hb3 w.heap.size (by omega) 1).trans x1_2
         have x2_3 := (bat hb3 w.heap.size (by omega) 2).trans x2_2
         have x3_3 := (bat hb3 w.heap.size (by omega) 3).trans x3_2
         have x4_3 := (bat hb3 w.heap.size (by omega) 4).trans x4_2
         have y0_3 := (bat hb3 (w.heap.size + 1) (by omega) 0).trans y0_2
         have y1_3 := (bat hb3 (w.heap.size + 1) (by omega) 1).trans y1_2
         have y2_3 := (bat hb3 (w.heap.size + 1) (by omega) 2).trans y2_2
         have y3_3 := (bat hb3 (w.heap.size + 1) (by omega) 3).trans y3_2
         have y4_3 := (bat hb3 (w.heap.size + 1) (by omega) 4).trans y4_2))
  go_wp2
  go_ret
  exact ⟨rfl, (hB1.then hb2).then hb3⟩
section
variable {P : Program} {ops : Array Oper}
inductive Sp where
  | k (c : Value)
  | n (p : Value → Prop) (q : World → Value → Prop)
def Sp.pure : Sp → Value → Prop
  | .k c, v => v = c
  | .n p _, v => p v
def Sp.inW : Sp → World → Value → Prop
  | .k _, _, _ => True
  | .n _ q, w, v => q w v
def OpH (P : Program) (o : Oper) (a : Act) (w : World) (K : Value → World → Prop) : Prop :=
  (∃ v w', ((execOp a.eval o).run P w = .ok (.value v) w' ∨ ((execOp a.eval o).run P w = .ok .skip w' ∧ v = undef)) ∧ K v w') ∨
  ∃ f args, (execOp a.eval o).run P w = .ok (.enter f args) w ∧ Calls P f args w fun e w' => ∃ v, e = .returned v ∧ K v w'
def readsT (ops : Array Oper) (o : Oper) : Option Tmp → Bool
  | some t => (o.looksAt ops).contains t
  | none => false
def Kn (ops : Array Oper) (o : Oper) (w : World) : List (Option Tmp × (World → Value → Prop) × Value) → Prop
  | [] => True
  | (d, q, v) :: r => (readsT ops o d = true → q w v) ∧ Kn ops o w r
def Al (w : World) : List (Option Tmp × (World → Value → Prop) × Value) → Prop
  | [] => True
  | (_, q, v) :: r => q w v ∧ Al w r
def HoS (P : Program) (ops : Array Oper) (S : World → Prop) (R : World → World → Prop) (Q : Exit → Act → World → Prop) : List Sp → List Oper → Act → List (Option Tmp × (World → Value → Prop) × Value) → Prop
  | [], tl, a, seen => ∀ w, S w → Al w seen → wpList P ops Q tl a w
  | .k c :: rs, o :: r, a, seen => (∀ w, S w → Kn ops o w seen → (execOp a.eval o).run P w = .ok (.value c) w) ∧ HoS P ops S R Q rs r (a.put o.dst c) seen
  | .n p q :: rs, o :: r, a, seen => (∀ w, S w → Kn ops o w seen → OpH P o a w fun v w' => p v ∧ q w' v ∧ S w' ∧ R w w') ∧ ∀ v, p v → HoS P ops S R Q rs r (a.put o.dst v) (seen ++ [(o.dst, q, v)])
  | _ :: _, [], _, _ => False
theorem hos_k {S : World → Prop} {R : World → World → Prop} {Q : Exit → Act → World → Prop} {rs : List Sp} {r : List Oper} {o : Oper} {a : Act} {seen : List (Option Tmp × (World → Value → Prop) × Value)} {c : Value} (h1 : ∀ w, S w → Kn ops o w seen → (execOp a.eval o).run P w = .ok (.value c) w) (h2 : HoS P ops S R Q rs r (a.put o.dst c) seen) : HoS P ops S R Q (.k c :: rs) (o :: r) a seen := ⟨h1, h2⟩
theorem hos_n {S : World → Prop} {R : World → World → Prop} {Q : Exit → Act → World → Prop} {rs : List Sp} {r : List Oper} {o : Oper} {a : Act} {seen : List (Option Tmp × (World → Value → Prop) × Value)} {p : Value → Prop} {q : World → Value → Prop} (h1 : ∀ w, S w → Kn ops o w seen → OpH P o a w fun v w' => p v ∧ q w' v ∧ S w' ∧ R w w') (h2 : ∀ v, p v → HoS P ops S R Q rs r (a.put o.dst v) (seen ++ [(o.dst, q, v)])) : HoS P ops S R Q (.n p q :: rs) (o :: r) a seen := ⟨h1, h2⟩
theorem hos_end {S : World → Prop} {R : World → World → Prop} {Q : Exit → Act → World → Prop} {tl : List Oper} {a : Act} {seen : List (Option Tmp × (World → Value → Prop) × Value)} (h : ∀ w, S w → Al w seen → wpList P ops Q tl a w) : HoS P ops S R Q [] tl a seen := h
theorem opH_val {o : Oper} {a : Act} {w : World} {K : Value → World → Prop} (v : Value) (w' : World) (h : (execOp a.eval o).run P w = .ok (.value v) w') (hk : K v w') : OpH P o a w K := .inl ⟨v, w', .inl h, hk⟩
theorem opH_skip {o : Oper} {a : Act} {w : World} {K : Value → World → Prop} (w' : World) (h : (execOp a.eval o).run P w = .ok .skip w') (hk : K undef w') : OpH P o a w K := .inl ⟨undef, w', .inr ⟨h, rfl⟩, hk⟩
theorem opH_call {o : Oper} {a : Act} {w : World} {K : Value → World → Prop} (f : FuncId) (args : Array Value) (h : (execOp a.eval o).run P w = .ok (.enter f args) w) (hc : Calls P f args w fun e w' => ∃ v, e = .returned v ∧ K v w') : OpH P o a w K := .inr ⟨f, args, h, hc⟩
theorem tail_call {o : Oper} {a : Act} {w : World} {Q : Exit → Act → World → Prop} (hgd : o.guard = none) (f : FuncId) (args : Array Value) (h : (execOp a.eval o).run P w = .ok (.enter f args) w) (hc : Calls P f args w fun e w' => ∃ v, e = .returned v ∧ Q .normal (a.put o.dst v) w') : wpList P ops Q [o] a w := by
  have hw : Region.wanted o (yielded ops a.tmps) = true := by simp [Region.wanted, hgd]
  simp only [wpList, hw, if_true]
  left
  unfold Oper.wp
  rw [h, Oper.upon_enter]
  refine hc.mono ?_
  rintro e w' ⟨v, rfl, hv⟩
  exact hv
theorem tail_skip {o : Oper} {a : Act} {w : World} {Q : Exit → Act → World → Prop} (hgd : o.guard = none) (w' : World) (h : (execOp a.eval o).run P w = .ok .skip w') (hq : Q .normal (a.put o.dst undef) w') : wpList P ops Q [o] a w := by
  have hw : Region.wanted o (yielded ops a.tmps) = true := by simp [Region.wanted, hgd]
  simp only [wpList, hw, if_true]
  left
  unfold Oper.wp
  rw [h]; exact hq
def canon (ops : Array Oper) (a : Act) (vs : Nat → Value) : Nat → Act
  | 0 => a
  | i + 1 => match ops[i]? with
    | some o => (canon ops a vs i).put o.dst (vs i)
    | none => canon ops a vs i
theorem canon_succ {a : Act} {vs : Nat → Value} {i : Nat} {o : Oper} (h : ops[i]? = some o) : canon ops a vs (i + 1) = (canon ops a vs i).put o.dst (vs i) := by simp only [canon, h]
theorem canon_size (a : Act) (vs : Nat → Value) : ∀ i, (canon ops a vs i).tmps.size = a.tmps.size ∧ (canon ops a vs i).defers = a.defers
  | 0 => ⟨rfl, rfl⟩
  | i + 1 => by
    cases h : ops[i]? with
    | none => simp only [canon, h]; exact canon_size a vs i
    | some o => rw [canon_succ h, put_size, put_def]; exact canon_size a vs i
theorem canon_keep (a : Act) (vs : Nat → Value) (t : Tmp) (i : Nat) : ∀ k, (∀ j o, i ≤ j → j < i + k → ops[j]? = some o → o.dst ≠ some t) → (canon ops a vs (i + k)).tmps[t]? = (canon ops a vs i).tmps[t]?
  | 0, _ => rfl
  | k + 1, hn => by
    have ih := canon_keep a vs t i k fun j o h1 h2 => hn j o h1 (by omega)
    rw [show i + (k + 1) = i + k + 1 by omega]
    cases h : ops[i + k]? with
    | none => simp only [canon, h]; exact ih
    | some o => rw [canon_succ h, put_ne _ _ _ _ (hn (i + k) o (by omega) (by omega) h)]; exact ih
theorem canon_at {md : Region.Mode} (hk : ordOk md ops = true) (a : Act) (vs : Nat → Value) {j : Nat} {p : Oper} {t : Tmp} (hj : ops[j]? = some p) (hd : p.dst = some t) {i : Nat} (hji : j < i) : (canon ops a vs i).tmps[t]? = if t < a.tmps.size then some (vs j) else none := by
  have := canon_keep (ops := ops) a vs t (j + 1) (i - (j + 1)) fun k o h1 h2 ho hdo => (pair_spec ((ordOk_at hk ho).2.2 j p hj) (by omega) hd).1 hdo
  rw [show j + 1 + (i - (j + 1)) = i by omega] at this
  rw [this, canon_succ hj, hd, put_eq, (canon_size a vs j).1]
theorem canon_old (a : Act) (vs : Nat → Value) (t : Tmp) (i : Nat) (h : ∀ j o, j < i → ops[j]? = some o → o.dst ≠ some t) : (canon ops a vs i).tmps[t]? = a.tmps[t]? := by
  have := canon_keep (ops := ops) a vs t 0 i fun j o _ h2 ho => h j o (by omega) ho
  rwa [Nat.zero_add] at this
structure AgH (md : Region.Mode) (ops : Array Oper) (a0 : Act) (vs : Nat → Value) (listed : Array Bool) (a : Act) : Prop where
  lsz : listed.size = ops.size
  down : ∀ i o, ops[i]? = some o → listed.getD i false = true → ∀ e ∈ o.after, Region.binds md e = true → listed.getD e.on false = true
  dfs : a.defers = a0.defers
  tsz : a.tmps.size = a0.tmps.size
  has : ∀ i o t, ops[i]? = some o → o.dst = some t → listed.getD i false = true → a.tmps[t]? = if t < a0.tmps.size then some (vs i) else none
  old : ∀ t, (∀ i o, ops[i]? = some o → o.dst = some t → listed.getD i false = false) → a.tmps[t]? = a0.tmps[t]?
theorem AgH.looks {md : Region.Mode} {a0 : Act} {vs : Nat → Value} {listed : Array Bool} {a : Act} (hk : ordOk md ops = true) (hg : AgH md ops a0 vs listed a) {i : Nat} {o : Oper} (hi : ops[i]? = some o) (hr : ∀ e ∈ o.after, Region.binds md e = true → listed.getD e.on false = true) (hl : listed.getD i false = false) (t : Tmp) (ht : t ∈ o.looksAt ops) : a.tmps[t]? = (canon ops a0 vs i).tmps[t]? := by
  by_cases hw : ∃ j p, j < i ∧ ops[j]? = some p ∧ p.dst = some t
  · obtain ⟨j, p, hji, hj, hd⟩ := hw
    obtain ⟨e, he, hb, hon⟩ := ((pair_spec ((ordOk_at hk hi).2.2 j p hj) (by omega) hd).2 ht).1 hji
    have hlj := hr e he hb
    rw [hon] at hlj
    rw [hg.has j p t hj hd hlj, canon_at hk a0 vs hj hd hji]
  · rw [canon_old a0 vs t i fun j p h hj hd => hw ⟨j, p, h, hj, hd⟩]
    refine hg.old t fun k p hp hd => ?_
    by_cases hki : k = i
    · rw [hki]; exact hl
    · have hnk : ¬ k < i := fun hlt' => hw ⟨k, p, hlt', hp, hd⟩
      obtain ⟨e, he, hb, hon⟩ := ((pair_spec ((ordOk_at hk hi).2.2 k p hp) (fun e => hki e.symm) hd).2 ht).2 hnk
      cases hlk : listed.getD k false with
      | false => rfl
      | true =>
        have := hg.down k p hp hlk e he hb
        rw [hon, hl] at this; cases this
theorem AgH.binds {md : Region.Mode} {a0 : Act} {vs : Nat → Value} {listed : Array Bool} {a : Act} (hk : ordOk md ops = true) {i : Nat} {o : Oper} (hi : ops[i]? = some o) (hr : ∀ e ∈ o.after, Region.binds md e = true → listed.getD e.on false = true) {j : Nat} {p : Oper} (hj : ops[j]? = some p) (hji : j < i) (hrd : readsT ops o p.dst = true) : listed.getD j false = true := by
  cases hd : p.dst with
  | none => rw [hd] at hrd; cases hrd
  | some t =>
    rw [hd] at hrd
    have ht : t ∈ o.looksAt ops := by simpa [readsT] using hrd
    obtain ⟨e, he, hb, hon⟩ := ((pair_spec ((ordOk_at hk hi).2.2 j p hj) (by omega) hd).2 ht).1 hji
    have := hr e he hb
    rwa [hon] at this
theorem AgH.all {md : Region.Mode} {a0 : Act} {vs : Nat → Value} {listed : Array Bool} {a : Act} (hk : ordOk md ops = true) (hg : AgH md ops a0 vs listed a) (n : Nat) (hn : n ≤ ops.size) (h : ∀ i, i < n → listed.getD i false = true) (h2 : ∀ i, n ≤ i → listed.getD i false = false) : a = canon ops a0 vs n := by
  have hsz := canon_size (ops := ops) a0 vs n
  have h1 : a.tmps = (canon ops a0 vs n).tmps := by
    refine Array.ext_getElem? fun t => ?_
    by_cases hw : ∃ (i : Nat) (o : Oper), i < n ∧ ops[i]? = some o ∧ o.dst = some t
    · obtain ⟨i, o, hin, hi, hd⟩ := hw
      rw [hg.has i o t hi hd (h i hin), canon_at hk a0 vs hi hd hin]
    · rw [canon_old a0 vs t n fun j p h hj hd => hw ⟨j, p, h, hj, hd⟩]
      refine hg.old t fun i o hi hd => ?_
      by_cases hin : i < n
      · exact absurd ⟨i, o, hin, hi, hd⟩ hw
      · exact h2 i (by omega)
  have h2 : a.defers = (canon ops a0 vs n).defers := hg.dfs.trans hsz.2.symm
  cases a
  cases hA : canon ops a0 vs n
  rw [hA] at h1 h2
  simp only at h1 h2
  rw [h1, h2]
theorem AgH.set {md : Region.Mode} {a0 : Act} {vs : Nat → Value} {listed : Array Bool} {a : Act} (hk : ordOk md ops = true) (hg : AgH md ops a0 vs listed a) {i : Nat} {o : Oper} (hi : ops[i]? = some o) (hr : ∀ e ∈ o.after, Region.binds md e = true → listed.getD e.on false = true) (v : Value) : AgH md ops a0 (fun j => if j = i then v else vs j) (listed.setIfInBounds i true) (a.put o.dst v) := by
  have hls : i < listed.size := by rw [hg.lsz]; exact (Array.getElem?_eq_some_iff.1 hi).1
  refine ⟨by rw [Array.size_setIfInBounds]; exact hg.lsz, ?_, by rw [put_def]; exact hg.dfs, by rw [put_size]; exact hg.tsz, ?_, ?_⟩
  · intro j p hj hlj e he hb
    rw [getD_set _ _ _ hls] at hlj ⊢
    by_cases hie : i = e.on
    · rw [if_pos hie]
    · rw [if_neg hie]
      by_cases hij : i = j
      · subst hij
        rw [hi] at hj
        cases hj
        exact hr e he hb
      · rw [if_neg hij] at hlj
        exact hg.down j p hj hlj e he hb
  · intro j p t hj hd hlj
    rw [getD_set _ _ _ hls] at hlj
    by_cases hij : i = j
    · subst hij
      rw [hi] at hj
      cases hj
      rw [hd, put_eq, hg.tsz, if_pos rfl]
    · rw [if_neg hij] at hlj
      have hne := (pair_spec ((ordOk_at hk hi).2.2 j p hj) hij hd).1
      have h9 := hg.has j p t hj hd hlj
      have hji : ¬ j = i := fun e => hij e.symm
      simp only [hji, if_false]
      rw [put_ne _ _ _ _ hne]
      exact h9
  · intro t hn
    have hi3 := hn i _ hi
    have hne : o.dst ≠ some t := fun hd => by
      have := hi3 hd
      rw [getD_set _ _ _ hls, if_pos rfl] at this; cases this
    rw [put_ne _ _ _ _ hne]
    refine hg.old t fun j p hj hd => ?_
    have := hn j p hj hd
    rw [getD_set _ _ _ hls] at this
    by_cases hij : i = j
    · rw [if_pos hij] at this; cases this
    · rwa [if_neg hij] at this
theorem OpH.congr {o : Oper} {a a' : Act} {w : World} {K : Value → World → Prop} (hn : noSel o = true) (h : ∀ t ∈ o.looksAt ops, a'.tmps[t]? = a.tmps[t]?) (hc : OpH P o a w K) : OpH P o a' w K := by
  have he : execOp a'.eval o = execOp a.eval o := execOp_congr o (noSel_ne hn) fun x hx => eval_same fun t ht => h t (by
    subst ht
    exact List.mem_append_left _ (List.mem_filterMap.2 ⟨.tmp t, by simpa using hx, rfl⟩))
  unfold OpH at *
  rw [he]; exact hc
theorem OpH.wpOp {i : Nat} {o : Oper} {a : Act} {w : World} {Q : Exit → Act → World → Prop} {K : Act → World → Prop} {Kv : Value → World → Prop} (hi : ops[i]? = some o) (hgd : o.guard = none) (hc : OpH P o a w Kv) (h : ∀ v w', Kv v w' → K (a.put o.dst v) w') : wpOp P ops Q i K a w := by
  have hw : Region.wanted o (yielded ops a.tmps) = true := by simp [Region.wanted, hgd]
  unfold Go.wpOp
  simp only [hi, hw, if_true]
  left
  unfold Oper.wp
  rcases hc with ⟨v, w', hr | ⟨hr, rfl⟩, hv⟩ | ⟨f, args, hr, hcc⟩
  · rw [hr]; exact h v w' hv
  · rw [hr]; exact h undef w' hv
  · rw [hr, Oper.upon_enter]
    refine hcc.mono ?_
    rintro e w' ⟨v, rfl, hv⟩
    exact h v w' hv
def tailOk (md : Region.Mode) (ops : Array Oper) (n : Nat) : Bool :=
  (ops.toList.all fun o => o.guard.isNone) && (ops.size == n || (ops.size == n + 1 && (List.range n).all fun i => (List.range ops.size).any fun j => i < j && match ops[j]? with
    | some p => p.after.any (fun e => Region.binds md e && e.on == i)
    | none => false))
def spAt (sps : List Sp) (i : Nat) : Sp := sps.getD i (.n (fun _ => True) fun _ _ => True)
theorem hos_idx {S : World → Prop} {R : World → World → Prop} {Q : Exit → Act → World → Prop} {a0 : Act} (hR : ∀ w, R w w) (sps0 : List Sp) (vs : Nat → Value) (hvs : ∀ i, (spAt sps0 i).pure (vs i)) :
    ∀ (sps : List Sp) (l : List Oper) (i : Nat) (seen : List (Option Tmp × (World → Value → Prop) × Value)), (∀ k, sps[k]? = sps0[i + k]?) → (∀ k, l[k]? = ops[i + k]?) → (∀ w, (∀ j p, j < i → ops[j]? = some p → (spAt sps0 j).inW w (vs j)) → Al w seen) → (∀ w o, (∀ j p, j < i → ops[j]? = some p → readsT ops o p.dst = true → (spAt sps0 j).inW w (vs j)) → Kn ops o w seen) → HoS P ops S R Q sps l (canon ops a0 vs i) seen →
      (∀ k o, i ≤ k → k < i + sps.length → ops[k]? = some o → ∀ w, S w → (∀ j p, j < k → ops[j]? = some p → readsT ops o p.dst = true → (spAt sps0 j).inW w (vs j)) → OpH P o (canon ops a0 vs k) w fun v w' => (spAt sps0 k).pure v ∧ (spAt sps0 k).inW w' v ∧ S w' ∧ R w w') ∧
      (∀ w, S w → (∀ j p, j < i + sps.length → ops[j]? = some p → (spAt sps0 j).inW w (vs j)) → wpList P ops Q (l.drop sps.length) (canon ops a0 vs (i + sps.length)) w)
  | [], l, i, seen, h1, h2, hA, hK, h => ⟨fun k o h3 h4 => absurd h4 (by simp; omega), fun w hS hq => h w hS (hA w hq)⟩
  | s :: rs, [], i, seen, h1, h2, hA, hK, h => by cases s <;> exact False.elim h
  | s :: rs, o :: r, i, seen, h1, h2, hA, hK, h => by
    have hs : spAt sps0 i = s := by
      have := h1 0
      simp only [List.getElem?_cons_zero, Nat.add_zero] at this
      simp only [spAt, List.getD_eq_getElem?_getD, ← this, Option.getD_some]
    have ho : ops[i]? = some o := by simpa using (h2 0).symm
    have hc := canon_succ (a := a0) (vs := vs) ho
    have e1 : i + (s :: rs).length = i + 1 + rs.length := by simp; omega
    have g1 : ∀ k, rs[k]? = sps0[i + 1 + k]? := fun k => by have := h1 (k + 1); simpa [Nat.add_assoc, Nat.add_comm 1 k] using this
    have g2 : ∀ k, r[k]? = ops[i + 1 + k]? := fun k => by have := h2 (k + 1); simpa [Nat.add_assoc, Nat.add_comm 1 k] using this
    cases s with
    | k c =>
      have hv : vs i = c := by have := hvs i; rw [hs] at this; exact this
      obtain ⟨p1, p2⟩ := h
      rw [← hv, ← hc] at p2
      have ih := hos_idx hR sps0 vs hvs rs r (i + 1) seen g1 g2 (fun w hq => hA w fun j p hj => hq j p (by omega)) (fun w o' hq => hK w o' fun j p hj => hq j p (by omega)) p2
      refine ⟨fun k o' h3 h4 h5 w hS hq => ?_, fun w hS hq => ?_⟩
      · by_cases hik : k = i
        · subst hik
          rw [ho] at h5; cases h5
          rw [hs]
          exact .inl ⟨c, w, .inl (p1 w hS (hK w o hq)), rfl, trivial, hS, hR w⟩
        · exact ih.1 k o' (by omega) (by omega) h5 w hS hq
      · rw [e1]; exact ih.2 w hS fun j p hj => hq j p (by omega)
    | n pp q =>
      have hv : pp (vs i) := by have := hvs i; rw [hs] at this; exact this
      obtain ⟨p1, p2⟩ := h
      have p2 := p2 _ hv
      rw [← hc] at p2
      have al_app : ∀ w (l : List (Option Tmp × (World → Value → Prop) × Value)), Al w l → q w (vs i) → Al w (l ++ [(o.dst, q, vs i)]) := by
        intro w l; induction l with
        | nil => intro _ h; exact ⟨h, trivial⟩
        | cons x l ih => intro h1 h2; obtain ⟨x1, x2, x3⟩ := x; exact ⟨h1.1, ih h1.2 h2⟩
      have kn_app : ∀ w o' (l : List (Option Tmp × (World → Value → Prop) × Value)), Kn ops o' w l → (readsT ops o' o.dst = true → q w (vs i)) → Kn ops o' w (l ++ [(o.dst, q, vs i)]) := by
        intro w o' l; induction l with
        | nil => intro _ h; exact ⟨h, trivial⟩
        | cons x l ih => intro h1 h2; obtain ⟨x1, x2, x3⟩ := x; exact ⟨h1.1, ih h1.2 h2⟩
      have ih := hos_idx hR sps0 vs hvs rs r (i + 1) _ g1 g2 (fun w hq => al_app w seen (hA w fun j p hj => hq j p (by omega)) (by have := hq i o (by omega) ho; rw [hs] at this; exact this)) (fun w o' hq => kn_app w o' seen (hK w o' fun j p hj => hq j p (by omega)) fun hrd => (by have := hq i o (by omega) ho hrd; rw [hs] at this; exact this)) p2
      refine ⟨fun k o' h3 h4 h5 w hS hq => ?_, fun w hS hq => ?_⟩
      · by_cases hik : k = i
        · subst hik
          rw [ho] at h5; cases h5
          rw [hs]
          exact p1 w hS (hK w o hq)
        · exact ih.1 k o' (by omega) (by omega) h5 w hS hq
      · rw [e1]; exact ih.2 w hS fun j p hj => hq j p (by omega)
theorem ready_nil {md : Region.Mode} {listed : Array Bool} (hs : listed.size = ops.size) (h : ∀ i, i < ops.size → listed.getD i false = true) : Region.ready md ops listed = [] := by
  unfold Region.ready
  rw [List.filter_eq_nil_iff]
  intro i hi
  have hi' : i < listed.size := by rw [hs]; simpa using hi
  have h1 : listed.getD i true = true := by
    have := h i (by simpa using hi)
    rw [Array.getD_eq_getD_getElem?, Array.getElem?_eq_getElem hi'] at this ⊢
    exact this
  rw [h1]; simp
theorem all_listed {md : Region.Mode} {listed : Array Bool} (hk : ordOk md ops = true) (hls : listed.size = ops.size) (hr : Region.ready md ops listed = []) : ∀ i, i < ops.size → listed.getD i false = true := by
  have hall : ∀ k, ∀ i, i < k → i < ops.size → listed.getD i false = true := by
    intro k
    induction k with
    | zero => intro i hi; omega
    | succ k ih =>
      intro i hi hs
      by_cases hlt : i < k
      · exact ih i hlt hs
      · cases hl : listed.getD i false with
        | true => rfl
        | false =>
          exfalso
          have hio : ops[i]? = some ops[i] := Array.getElem?_eq_getElem hs
          have hmem : i ∈ Region.ready md ops listed := by
            unfold Region.ready
            rw [List.mem_filter]
            refine ⟨by simpa using hs, ?_⟩
            have h1 : listed.getD i true = false := by
              rw [Array.getD_eq_getD_getElem?] at hl ⊢
              rw [Array.getElem?_eq_getElem (by rw [hls]; exact hs)] at hl ⊢
              exact hl
            rw [h1, hio]
            simp only [Bool.not_false, Bool.true_and, Option.map_some, Option.getD_some]
            rw [Array.all_eq_true_iff_forall_mem]
            intro e he
            cases hb : Region.binds md e with
            | false => rfl
            | true =>
              have := (ordOk_at hk hio).2.1 e he hb
              rw [ih e.on (by omega) (by omega)]; rfl
          rw [hr] at hmem; cases hmem
  exact fun i hi => hall (i + 1) i (by omega) hi
theorem any_of_hos {md : Region.Mode} {S : World → Prop} {R : World → World → Prop} {Q : Exit → Act → World → Prop} {a0 : Act} (hk : ordOk md ops = true) (sps : List Sp) (ht : tailOk md ops sps.length = true) (hR : ∀ w, R w w)
    (hst : ∀ i w w' v, S w → R w w' → (spAt sps i).inW w v → (spAt sps i).inW w' v) (h : HoS P ops S R Q sps ops.toList a0 []) :
    ∀ fuel (vs : Nat → Value) (listed : Array Bool) (a : Act) (w : World), (∀ i, (spAt sps i).pure (vs i)) → (∀ i, i < sps.length → listed.getD i false = true → (spAt sps i).inW w (vs i)) → (∀ i, sps.length ≤ i → listed.getD i false = false) → AgH md ops a0 vs listed a → falses listed.toList ≤ fuel → S w → wpAny P md ops Q fuel listed a w := by
  unfold tailOk at ht
  simp only [Bool.and_eq_true, Bool.or_eq_true, beq_iff_eq] at ht
  obtain ⟨hgd, hsz⟩ := ht
  have hgd' : ∀ (i : Nat) (o : Oper), ops[i]? = some o → o.guard = none := fun i o hi => by
    rw [List.all_eq_true] at hgd
    have := hgd o (by simpa using Array.mem_of_getElem? hi)
    simpa using this
  have hlen : sps.length ≤ ops.size := by rcases hsz with h | h <;> omega
  have hI := fun vs hvs => hos_idx (P := P) (ops := ops) (S := S) (R := R) (Q := Q) (a0 := a0) hR sps vs hvs sps ops.toList 0 [] (by simp) (by simp) (fun _ _ => trivial) (fun _ _ _ => trivial) h
  have hend : ∀ (vs : Nat → Value) (listed : Array Bool) (a : Act) (w : World), (∀ i, (spAt sps i).pure (vs i)) → (∀ i, i < sps.length → listed.getD i false = true → (spAt sps i).inW w (vs i)) → (∀ i, sps.length ≤ i → listed.getD i false = false) → AgH md ops a0 vs listed a → (∀ i, i < sps.length → listed.getD i false = true) → S w → wpList P ops Q (ops.toList.drop sps.length) a w := by
    intro vs listed a w hvs hin hno hg hall hS
    have e := hg.all hk sps.length hlen hall hno
    rw [e]
    have := (hI vs hvs).2 w hS fun j p hj hp => hin j (by omega) (hall j (by omega))
    rwa [Nat.zero_add] at this
  have hnrm : ∀ (vs : Nat → Value) (listed : Array Bool) (a : Act) (w : World), (∀ i, (spAt sps i).pure (vs i)) → (∀ i, i < sps.length → listed.getD i false = true → (spAt sps i).inW w (vs i)) → (∀ i, sps.length ≤ i → listed.getD i false = false) → AgH md ops a0 vs listed a → Region.ready md ops listed = [] → S w → Q .normal a w := by
    intro vs listed a w hvs hin hno hg hr hS
    have hall := all_listed hk hg.lsz hr
    have hs : ops.size = sps.length := by
      rcases hsz with h | h
      · exact h
      · have := hall sps.length (by omega)
        rw [hno _ (Nat.le_refl _)] at this; cases this
    have := hend vs listed a w hvs hin hno hg (fun i hi => hall i (by omega)) hS
    rw [← hs, ← Array.length_toList, List.drop_length] at this
    exact this
  intro fuel
  induction fuel with
  | zero =>
    intro vs listed a w hvs hin hno hg hf hS
    have hr : Region.ready md ops listed = [] := ready_nil hg.lsz fun i hi => by
      cases hb : listed.getD i false with
      | true => rfl
      | false =>
        have hi' : i < listed.toList.length := by rw [Array.length_toList, hg.lsz]; exact hi
        have := falses_set listed.toList i hi' (by
          rw [Array.getD_eq_getD_getElem?, Array.getElem?_eq_getElem (by simpa using hi')] at hb
          simpa using hb)
        omega
    exact ⟨hr, hnrm vs listed a w hvs hin hno hg hr hS⟩
  | succ fuel ih =>
    intro vs listed a w hvs hin hno hg hf hS
    refine ⟨fun hr => hnrm vs listed a w hvs hin hno hg hr hS, fun i hi => ?_⟩
    unfold Region.ready at hi
    rw [List.mem_filter] at hi
    obtain ⟨hlt0, hi2⟩ := hi
    have hlt : i < ops.size := by simpa using hlt0
    have hio : ops[i]? = some ops[i] := Array.getElem?_eq_getElem hlt
    rw [hio] at hi2
    simp only [Bool.and_eq_true, Bool.not_eq_true', Option.map_some, Option.getD_some] at hi2
    obtain ⟨hl1, hr1⟩ := hi2
    have hls : i < listed.size := by rw [hg.lsz]; exact hlt
    have hl : listed.getD i false = false := by
      rw [Array.getD_eq_getD_getElem?, Array.getElem?_eq_getElem hls] at hl1 ⊢
      exact hl1
    have hr : ∀ e ∈ ops[i].after, Region.binds md e = true → listed.getD e.on false = true := by
      rw [Array.all_eq_true_iff_forall_mem] at hr1
      intro e he hb
      have := hr1 e he
      simpa [hb] using this
    by_cases hil : i < sps.length
    · have hop := (hI vs hvs).1 i ops[i] (by omega) (by omega) hio w hS fun j p hj hp hrd => hin j (by omega) (AgH.binds (md := md) (a0 := a0) (vs := vs) (a := a) hk hio hr hp hj hrd)
      refine (hop.congr (ordOk_at hk hio).1 (fun t ht => hg.looks hk hio hr hl t ht)).wpOp hio (hgd' i _ hio) ?_
      rintro v w' ⟨hp, hq, hS', hR'⟩
      refine ih (fun j => if j = i then v else vs j) _ _ _ (fun j => ?_) (fun j hj hlj => ?_) (fun j hj => ?_) (hg.set hk hio hr v) ?_ hS'
      · show (spAt sps j).pure (if j = i then v else vs j)
        split
        · rename_i e; rw [e]; exact hp
        · exact hvs j
      · show (spAt sps j).inW w' (if j = i then v else vs j)
        split
        · rename_i e; rw [e]; exact hq
        · rename_i e
          rw [getD_set _ _ _ hls, if_neg (fun h => e h.symm)] at hlj
          exact hst j w w' _ hS hR' (hin j hj hlj)
      · rw [getD_set _ _ _ hls, if_neg (by omega)]; exact hno j hj
      · have h1 := falses_set listed.toList i (by simpa using hls) (by
          rw [Array.getD_eq_getD_getElem?, Array.getElem?_eq_getElem hls] at hl
          simpa using hl)
        have h2 : (listed.setIfInBounds i true).toList = listed.toList.set i true := by simp
        rw [h2]; omega
    · -- the last one: all others are done
      have hsz' : ops.size = sps.length + 1 := by
        rcases hsz with h | h
        · omega
        · exact h.1
      have hlast : ((List.range sps.length).all fun i => (List.range ops.size).any fun j => i < j && match ops[j]? with
          | some p => p.after.any (fun e => Region.binds md e && e.on == i)
          | none => false) = true := by
        rcases hsz with h | h
        · omega
        · exact h.2
      have ei : i = sps.length := by omega
      have hall : ∀ d j, j + d = sps.length → listed.getD j false = true ∨ d = 0 := by
        intro d
        induction d using Nat.strongRecOn with
        | ind d ihd =>
          intro j hj
          by_cases hd : d = 0
          · exact .inr hd
          left
          rw [List.all_eq_true] at hlast
          have h1 := hlast j (by simp; omega)
          rw [List.any_eq_true] at h1
          obtain ⟨m, hm, h2⟩ := h1
          simp only [Bool.and_eq_true, decide_eq_true_eq] at h2
          obtain ⟨hjm, h3⟩ := h2
          have hms : m < ops.size := by simpa using hm
          have hmo : ops[m]? = some ops[m] := Array.getElem?_eq_getElem hms
          rw [hmo] at h3
          simp only at h3
          rw [Array.any_eq_true'] at h3
          obtain ⟨e, he, hb⟩ := h3
          simp only [Bool.and_eq_true, beq_iff_eq] at hb
          by_cases hml : m = sps.length
          · have hm2 : ops[m] = ops[i] := by congr 1; omega
            rw [hm2] at he
            have := hr e he hb.1
            rwa [hb.2] at this
          · have := (ihd (sps.length - m) (by omega) m (by omega)).resolve_right (by omega)
            have := hg.down m _ hmo this e he hb.1
            rwa [hb.2] at this
      have hall' : ∀ j, j < sps.length → listed.getD j false = true := fun j hj => (hall (sps.length - j) j (by omega)).resolve_right (by omega)
      have hw := hend vs listed a w hvs hin hno hg hall' hS
      have hdr : ops.toList.drop sps.length = [ops[i]] := by
        rw [← ei, List.drop_eq_getElem_cons (by simpa using hlt)]
        simp
        omega
      rw [hdr] at hw
      have hlst : ∀ j, j < ops.size → (listed.setIfInBounds i true).getD j false = true := fun j hj => by
        rw [getD_set _ _ _ hls]
        split
        · rfl
        · exact hall' j (by omega)
      have hrn : Region.ready md ops (listed.setIfInBounds i true) = [] := ready_nil (by rw [Array.size_setIfInBounds]; exact hg.lsz) hlst
      have hK : ∀ a' w', Q .normal a' w' → wpAny P md ops Q fuel (listed.setIfInBounds i true) a' w' := by
        intro a' w' hq
        cases fuel with
        | zero => exact ⟨hrn, hq⟩
        | succ f => exact ⟨fun _ => hq, fun m hm => by rw [hrn] at hm; cases hm⟩
      unfold Go.wpOp
      simp only [hio]
      simp only [wpList] at hw
      split
      · rename_i hwn
        rw [if_pos hwn] at hw
        rcases hw with hw | hw
        · exact .inl (Oper.wp_mono (fun a w h => hK a w h) hw)
        · exact .inr hw
      · rename_i hwn
        rw [if_neg hwn] at hw
        exact hK _ _ hw
def ExS : List Sp → Prop
  | [] => True
  | s :: r => (∃ v, s.pure v) ∧ ExS r
def StS (S : World → Prop) (R : World → World → Prop) : List Sp → Prop
  | [] => True
  | s :: r => (∀ w w' v, S w → R w w' → s.inW w v → s.inW w' v) ∧ StS S R r
theorem ExS.at : ∀ {sps : List Sp}, ExS sps → ∀ i, ∃ v, (spAt sps i).pure v
  | [], _, _ => ⟨undef, by simp [spAt, Sp.pure]⟩
  | s :: r, h, 0 => by simpa [spAt] using h.1
  | s :: r, h, i + 1 => by have := ExS.at h.2 i; simpa [spAt] using this
theorem StS.at {S : World → Prop} {R : World → World → Prop} : ∀ {sps : List Sp}, StS S R sps → ∀ i w w' v, S w → R w w' → (spAt sps i).inW w v → (spAt sps i).inW w' v
  | [], _, _ => by simp [spAt, Sp.inW]
  | s :: r, h, 0 => by simpa [spAt] using h.1
  | s :: r, h, i + 1 => by have := StS.at h.2 i; simpa [spAt] using this
def RStep (B : Nat) (w w' : World) : Prop := w.heap.size ≤ w'.heap.size ∧ ∀ b, B ≤ b → b < w.heap.size → w'.heap[b]? = w.heap[b]?
theorem RStep.refl (B : Nat) (w : World) : RStep B w w := ⟨Nat.le_refl _, fun _ _ _ => rfl⟩
theorem RStep.of {B : Nat} {w w' : World} (h : Below w.heap.size w w') : RStep B w w' := ⟨h.size, fun b _ hb => h.block b hb⟩
def InB (B : Nat) (w : World) (b : Nat) (cs : Array Value) (e : TypeId) : Prop := B ≤ b ∧ w.heap[b]? = some (.cells cs e (0, 0))
theorem InB.mv {B : Nat} {w w' : World} {b : Nat} {cs : Array Value} {e : TypeId} (h : InB B w b cs e) (hR : RStep B w w') : InB B w' b cs e := ⟨h.1, (hR.2 b h.1 (Array.getElem?_eq_some_iff.1 h.2).1).trans h.2⟩
theorem wp_region_hos {id : Nat} {a : Act} {w : World} {Q : Exit → Act → World → Prop} (S : World → Prop) (R : World → World → Prop) (sps : List Sp) (hm : P.follows .mixedOrders = true) (hk : ordOk .any ops = true) (ht : tailOk .any ops sps.length = true) (hS : S w.drew) (hR : ∀ w, R w w)
    (hex : ExS sps) (hst : StS S R sps) (h : HoS P ops S R Q sps ops.toList a []) : (Code.region id ops true).wp P Q a w := by
  refine wp_region_any hm ?_
  have hf : ∀ i, (Array.replicate ops.size false).getD i false = false := fun i => by
    rw [Array.getD_eq_getD_getElem?, Array.getElem?_replicate]; split <;> rfl
  refine any_of_hos hk sps ht hR hst.at h _ (fun i => Classical.choose (hex.at i)) _ _ _ (fun i => Classical.choose_spec (hex.at i)) (fun i _ hl => (by rw [hf] at hl; cases hl)) (fun i _ => hf i) ⟨by simp, fun i o hi hl => (by rw [hf] at hl; cases hl), rfl, rfl, fun i o t hi hd hl => (by rw [hf] at hl; cases hl), fun t _ => rfl⟩ ?_ hS
  rw [Array.toList_replicate, falses_rep]; exact Nat.le_refl _
end
set_option maxRecDepth 40000 in
set_option maxHeartbeats 8000000 in
theorem s_Seen (x : XRes) (cs : List Value) (w : World) (hx : KRes w x cs) : Calls Tryz.prog 82 #[.agg cs.toArray] w (RetRes (seenR x) w) := by
  obtain ⟨v1, rfl, r1⟩ := hx
  obtain ⟨A1, c1, rfl, -, hl1, -⟩ := r1.sm
  have hc := fun W hW => s_l1Copy (.slice A1 x.out.length c1) x.out W (r1.mv hW)
  clear r1
  obtain ⟨W0, hW0⟩ : ∃ W0 : World, W0 = (w.alloc (.cells #[.int .i64 x.code, .int .i64 x.value, .slice A1 x.out.length c1, .string x.mem, .int .i64 x.steps] 40)).alloc (.cells #[.int .i64 0, .int .i64 0, .slice none 0 0, .string ⟨#[]⟩, .int .i64 0] 40) := ⟨_, rfl⟩
  have hB0 : Hd (Below w.heap.size w W0) := ⟨by rw [hW0]; exact ((Below.refl w.heap.size w).al (Nat.le_refl _) _).al (by simp) _⟩
  have hz0 : W0.heap.size = w.heap.size + 2 := by rw [hW0]; simp
  have hzo : Hd (W0.heap[w.heap.size]? = some (.cells #[.int .i64 x.code, .int .i64 x.value, .slice A1 x.out.length c1, .string x.mem, .int .i64 x.steps] 40 (0, 0))) := ⟨by rw [hW0]; exact heap_old (heap_new _ _ _ _ rfl) (by simp)⟩
  have hro : Hd (W0.heap[w.heap.size + 1]? = some (.cells #[.int .i64 0, .int .i64 0, .slice none 0 0, .string ⟨#[]⟩, .int .i64 0] 40 (0, 0))) := ⟨by rw [hW0]; exact heap_new _ _ _ _ (by simp)⟩
  have hW0' := Hd.mk hW0
  clear hW0
  go_enter Tryz.func82, Tryz.ntmps82
  go_wp2
  rw [← hW0'.out]
  refine wp_region_hos (fun W => Below W0.heap.size W0 W) (fun W W' => Below W.heap.size W W') [.k (.pointer (some ⟨w.heap.size, 0, none⟩)), .k (.int .i64 x.code), .k (.pointer (some ⟨w.heap.size, 1, none⟩)), .k (.int .i64 x.value), .k (.pointer (some ⟨w.heap.size, 2, none⟩)), .k (.slice A1 x.out.length c1), .n (fun v => ∃ A c, v = .slice A x.out.length c) (fun W v => W.ownsRow W0.heap.size 2 1 (v) x.out.length (x.out.map (Value.int .i64))), .k (.pointer (some ⟨w.heap.size, 3, none⟩)), .k (.string x.mem), .n (fun v => ∃ A c, v = .agg #[.int .i64 x.code, .int .i64 x.value, .slice A x.out.length c, .string x.mem, .int .i64 0]) (fun W v => ∃ A c, v = .agg #[.int .i64 x.code, .int .i64 x.value, .slice A x.out.length c, .string x.mem, .int .i64 0] ∧ W.ownsRow W0.heap.size 2 1 (.slice A x.out.length c) x.out.length (x.out.map (Value.int .i64)))] (by kernel_rfl) (by kernel_rfl) (by kernel_rfl) (by repeat (first | exact Below.refl _ _ | assumption | refine Below.drew ?_ | refine Below.al ?_ (by first | exact Nat.le_refl _ | assumption | omega | (simp; done) | (simp; omega)) _)) (fun _ => .refl _ _) ?hex ?hst ?hrun
  case hex =>
    simp only [ExS, Sp.pure]
    repeat' first | exact trivial | refine And.intro ?_ ?_ | exact ⟨_, rfl⟩ | exact ⟨_, none, 0, rfl⟩
  case hst =>
    simp only [StS, Sp.inW]
    repeat' first | exact trivial | refine And.intro ?_ ?_ | (intro W W' v hS hR hi; first | exact trivial | exact own_mv hi hR | (obtain ⟨A, c, rfl, h1⟩ := hi; exact ⟨A, c, rfl, own_mv h1 hR⟩))
  simp only [List.toList_toArray]
  refine hos_k (fun W hS hk => ?_) ?_
  · clear hk
    go_simp
    first | done | rfl
  simp only [Act.put, List.setIfInBounds_toArray, List.set_cons_zero, List.set_cons_succ]
  refine hos_k (fun W hS hk => ?_) ?_
  · clear hk
    have j0 := (row_facts ((hS.block w.heap.size (by omega)).trans hzo.out)).1 0
    simp at j0
    go_simp
    first | done | rfl
  simp only [Act.put, List.setIfInBounds_toArray, List.set_cons_zero, List.set_cons_succ]
  refine hos_k (fun W hS hk => ?_) ?_
  · clear hk
    go_simp
    first | done | rfl
  simp only [Act.put, List.setIfInBounds_toArray, List.set_cons_zero, List.set_cons_succ]
  refine hos_k (fun W hS hk => ?_) ?_
  · clear hk
    have j0 := (row_facts ((hS.block w.heap.size (by omega)).trans hzo.out)).1 1
    simp at j0
    go_simp
    first | done | rfl
  simp only [Act.put, List.setIfInBounds_toArray, List.set_cons_zero, List.set_cons_succ]
  refine hos_k (fun W hS hk => ?_) ?_
  · clear hk
    go_simp
    first | done | rfl
  simp only [Act.put, List.setIfInBounds_toArray, List.set_cons_zero, List.set_cons_succ]
  refine hos_k (fun W hS hk => ?_) ?_
  · clear hk
    have j0 := (row_facts ((hS.block w.heap.size (by omega)).trans hzo.out)).1 2
    simp at j0
    go_simp
    first | done | rfl
  simp only [Act.put, List.setIfInBounds_toArray, List.set_cons_zero, List.set_cons_succ]
  refine hos_n (fun W hS hk => ?_) ?_
  · refine opH_call 119 #[.slice A1 x.out.length c1] ?_ ?_
    · clear hk
      go_simp
      first | done | rfl
    · refine (hc _ (hB0.out.then hS)).mono ?_
      rintro e w' ⟨v, rfl, ho, hb1⟩
      obtain ⟨A2, c2, rfl, -, -⟩ := own_shape ho
      exact ⟨_, rfl, ⟨A2, c2, by simp⟩, by simpa using own_lower ho hS.size, hS.then hb1, hb1⟩
  rintro _ ⟨A2, c2, rfl⟩
  simp only [Act.put, List.setIfInBounds_toArray, List.set_cons_zero, List.set_cons_succ]
  refine hos_k (fun W hS hk => ?_) ?_
  · clear hk
    go_simp
    first | done | rfl
  simp only [Act.put, List.setIfInBounds_toArray, List.set_cons_zero, List.set_cons_succ]
  refine hos_k (fun W hS hk => ?_) ?_
  · clear hk
    have j0 := (row_facts ((hS.block w.heap.size (by omega)).trans hzo.out)).1 3
    simp at j0
    go_simp
    first | done | rfl
  simp only [Act.put, List.setIfInBounds_toArray, List.set_cons_zero, List.set_cons_succ]
  refine hos_n (fun W hS hk => ?_) ?_
  · obtain ⟨hk1, -⟩ := hk
    have ho := hk1 (by kernel_rfl)
    refine opH_val (.agg #[.int .i64 x.code, .int .i64 x.value, .slice A2 x.out.length c2, .string x.mem, .int .i64 0]) W ?_ ⟨⟨A2, c2, rfl⟩, ⟨A2, c2, rfl, ho⟩, hS, .refl _ _⟩
    clear hk1 ho
    go_simp
    first | done | rfl
  rintro _ ⟨A3, c3, rfl⟩
  simp only [Act.put, List.setIfInBounds_toArray, List.set_cons_zero, List.set_cons_succ]
  refine hos_end (fun W hS hal => ?_)
  obtain ⟨-, ⟨A, c, e, ho⟩, -⟩ := hal
  cases e
  have hrb := (row_facts ((hS.block (w.heap.size + 1) (by omega)).trans hro.out))
  have hsz := hS.size
  have ho' := Hd.mk ho
  have hS' := Hd.mk hS
  clear ho hS
  have y0 := hrb.1 0
  have y1 := hrb.1 1
  have y2 := hrb.1 2
  have y3 := hrb.1 3
  have y4 := hrb.1 4
  have yf := hrb.2
  simp at y0 y1 y2 y3 y4
  clear hrb
  refine tail_skip rfl _ (by go_simp; first | done | rfl) ?_
  simp only [Act.put, List.setIfInBounds_toArray, List.set_cons_zero, List.set_cons_succ]
  go_wp2
  refine bodyPost_ret (v := .agg #[.int .i64 x.code, .int .i64 x.value, .slice A3 x.out.length c3, .string x.mem, .int .i64 0]) (by simp [results, Tryz.results82, go_sem, y0, y1, y2, y3, y4]) rfl ⟨_, rfl, own_lower (own_abv ho'.out (Nat.le_refl _) ?h1) (by show w.heap.size ≤ W0.heap.size; omega), ?h2⟩
  case h1 =>
    repeat (refine Abv.setCell ?_ (by show w.heap.size + 1 < W0.heap.size; omega) _)
    exact Abv.refl _ _
  case h2 =>
    repeat (refine Below.setCell ?_ (by show w.heap.size ≤ w.heap.size + 1; omega) _)
    exact hB0.out.then hS'.out
end Go.Proofs.YtkcgejbnhpccdaaGreat
