import Derived.Test.YtkcgejbnhpccdaaGreatJ44
import Derived.Test.YtkcgejbnhpccdaaGreatJ42
import Derived.Test.YtkcgejbnhpccdaaGreatJ37
import Derived.Deep.RegionHeld3
set_option linter.unusedSimpArgs false
set_option linter.unusedVariables false
namespace Go.Proofs.YtkcgejbnhpccdaaGreat
open Go.RowKit
def RetT5 (w : World) (e : Ending) (w' : World) : Prop := e = .returned (.bool true) ∧ Below w.heap.size w w'
theorem OwI.cells5 {lo : Nat} {w : World} {v : Value} {xs : List Int} (h : w.ownsRow lo 2 1 v xs.length (xs.map (Value.int .i64))) : ∃ A c, v = .slice A xs.length c ∧ Wr w A xs.length ∧ (0 < xs.length → ∃ G, A = some ⟨G, 0, none⟩ ∧ lo ≤ G ∧ G < w.heap.size) := by
  obtain ⟨h1, h2⟩ := h
  rcases h2 with ⟨rfl, h3⟩ | ⟨g, cap, cur, rfl, h5, h6, h7, h8, h9, h10⟩
  · exact ⟨none, 0, by rw [h3], fun h => absurd h (by omega), fun h => absurd h (by omega)⟩
  · refine ⟨_, _, rfl, fun _ => ⟨g, cur, _, rfl, h6, fun i hi => ⟨xs[i], ?_⟩⟩, fun _ => ⟨g, rfl, h5, (Array.getElem?_eq_some_iff.1 h6).1⟩⟩
    have : (cur.toList.take (xs.length * 1))[i]? = (xs.map (Value.int .i64))[i]? := by rw [h10]
    rw [List.getElem?_take_of_lt (by omega)] at this
    simpa [hi] using this
theorem row_ri5 {lo : Nat} {w : World} {v : Value} {xs : List Int} (h : w.ownsRow lo 2 1 v xs.length (xs.map (Value.int .i64))) (hl : xs.length ≤ 1048576) : RI lm w v xs := OwI.rd (OwI.of h) hl
theorem e_same5 {v u : Value} {xs : List Int} {w : World} (hv : RI lm w v xs) (hu : RI lm w u xs) : Calls Tryz.prog 33 #[v, u] w (Ret (.bool true) w) := by
  have h := e_I v u xs xs w hv hu
  rwa [decide_eq_true rfl] at h
theorem undrew5 {w w' : World} (h : Below w.drew.heap.size w.drew w') : Below w.heap.size w w' := ⟨h.os, h.tape, h.output, h.size, h.block⟩
theorem redrew5 {B : Nat} {w w' : World} (h : Below B w w') : Below B w w'.drew := ⟨h.os, h.tape, h.output, h.size, h.block⟩
theorem below_marks {B : Nat} {a W0 : World} (A : Option Addr) (n : Nat) (k : Int) {h : Nat} (hb : Below B a W0) (hG : n = 0 ∨ ∃ G, A = some ⟨G, 0, none⟩ ∧ B ≤ G ∧ G < h) : Below B a (setAll W0 (gblk A) 0 (marks k n)) := by
  rcases hG with rfl | ⟨G, rfl, h1, -⟩
  · exact hb
  · exact below_setAll _ h1 _ hb
theorem far_marks {B b : Nat} (A : Option Addr) (n : Nat) (k : Int) (W0 : World) (o : Nat) (hG : n = 0 ∨ ∃ G, A = some ⟨G, 0, none⟩ ∧ B ≤ G ∧ G < b) : (setAll W0 (gblk A) 0 (marks k n)).cell? ⟨b, o, none⟩ = W0.cell? ⟨b, o, none⟩ := by
  rcases hG with rfl | ⟨G, rfl, -, h1⟩
  · rfl
  · simp only [World.cell?]
    have hh := setAll_other (G := G) (b := b) (marks k n) (by omega) W0 0
    rw [show gblk (some ⟨G, 0, none⟩) = G from rfl, hh]
theorem KRes.mv' {w w' : World} {x : XRes} {cs : List Value} (h : KRes w x cs) (hb : Below w.heap.size w w') : KRes w' x cs := by
  obtain ⟨v, rfl, r⟩ := h; exact ⟨v, rfl, r.mv hb⟩
set_option maxRecDepth 20000 in
set_option maxHeartbeats 4000000 in
theorem f_ExactInvoked (x : XMod) (cs : List Value) (kk : Int) (va : Value) (args : List Int) (mem : ByteArray) (fuel : Int) (w : World) (hx : KMod lw w x cs) (ha : RI lw w va args) : Calls Tryz.prog 10 #[.agg cs.toArray, .int .i64 kk, va, .string mem, .int .i64 fuel] w (RetT5 w) := by
  have hbl := fun o => (Below.refl w.heap.size w).al (Nat.le_refl _) o
  have hz := fun W hW => z_Mod x cs 1048576 W (KM.mv hx hW) (by omega) (by omega)
  obtain ⟨Aa, ca, rfl, -, la, -⟩ := ha.sw
  by_cases g1 : (args.length : Int) > 1048576
  · have d1 : decide ((args.length : Int) > 1048576) = true := by simpa using g1
    obtain ⟨v1, rfl, -⟩ := hx
    clear hz
    go_enter Tryz.func10, Tryz.ntmps10
    go_wp2
    go_ret
    exact ⟨rfl, hbl _⟩
  have la' : args.length ≤ lm := by show _ ≤ 1048576; omega
  have d1 : decide ((args.length : Int) > 1048576) = false := by simpa using g1
  by_cases g2 : (mem.size : Int) > 1048576
  · have d2 : decide ((mem.size : Int) > 1048576) = true := by simpa using g2
    obtain ⟨v1, rfl, -⟩ := hx
    clear hz
    go_enter Tryz.func10, Tryz.ntmps10
    go_wp2
    go_ret
    exact ⟨rfl, hbl _⟩
  have d2 : decide ((mem.size : Int) > 1048576) = false := by simpa using g2
  rcases sub_cases 1048576 (wMod x) (by omega) with ⟨e, h⟩ | ⟨e, h, h'⟩
  · rw [e] at hz
    obtain ⟨v1, rfl, -⟩ := hx
    clear e
    go_enter Tryz.func10, Tryz.ntmps10
    go_wp2_with fail
    refine (hz _ (hbl _)).mono ?_; rintro e w1 ⟨rfl, hb1⟩
    go_wp2
    go_ret
    exact ⟨rfl, (hbl _).then hb1⟩
  have hw : wMod x ≤ lm := by show _ ≤ 1048576; omega
  rw [e] at hz
  clear e
  have hx' := nar_mod hx hw
  have ht := fun W (hW : Below w.heap.size w W) => t_Mod x cs W (KM.mv hx' hW)
  have ha' : RI lm w (.slice Aa args.length ca) args := ha.nar la' fun _ _ _ hk => hk
  have hta := fun W (hW : Below w.heap.size w W) => t_I (.slice Aa args.length ca) args W (ha'.mv hW)
  have hms : mem.size ≤ 1048576 := by omega
  have hro := resR_out x kk args mem fuel
  have hsM := fun W cs va hp ha => s_Invoked x cs kk va args mem fuel W hp ha hms
  have hcM := fun W cs va hp ha => c_Invoked x cs kk va args mem fuel W hp ha hms
  generalize resR x kk args mem fuel = R at *
  obtain ⟨v1, rfl, r1⟩ := hx
  obtain ⟨A1, c1, rfl, -, -, -⟩ := r1.sh
  clear hx' r1 ha ha'
  go_enter Tryz.func10, Tryz.ntmps10
  go_wp2_with fail
  refine (hz _ (hbl _)).mono ?_; rintro e w0 ⟨rfl, hb0⟩
  have hB0 := (hbl _).then hb0
  have g0 := bat hb0 w.heap.size (by first | (simp; done) | (simp; omega))
  have hz0 := hb0.size
  simp at g0 hz0
  clear hb0 hz
  have hneg : decide ((1048576 : Int) - wMod x < 0) = false := by simp; omega
  go_wp2_with fail
  refine (ht _ hB0).mono ?_; rintro e w1 ⟨cs1, rfl, ho1, hb1⟩
  have hk1 := o_mod ho1 hw
  obtain ⟨u1, rfl, p1⟩ := ho1
  clear p1
  have hB1 := hB0.then hb1
  go_wp2_with fail
  refine (hta _ hB1).mono ?_; rintro e w2 ⟨va2, rfl, ho2, hb2⟩
  have hk2 : RI lm w2 va2 args := OwI.rd ho2 la'
  clear ho2
  go_wp2_with fail
  refine (hsM _ _ _ (KM.mv hk1 hb2) hk2).mono ?_; rintro e w3 ⟨V0, rfl, hV0, hb3⟩
  have hB3 := (hB1.then hb2).then hb3
  unfold resV
  have hv3 : KRes w3 R [.int .i64 R.code, .int .i64 R.value, V0, .string R.mem, .int .i64 R.steps] := res_K hV0 hro
  obtain ⟨Aw, cw, rfl, -⟩ := own_shape hV0
  clear hk1 hk2 hV0
  have g0_3 := fun o => (bat ((hb1.then hb2).then hb3) w.heap.size (by omega) o).trans (g0 o)
  have a0_3 := g0_3 0
  simp at a0_3
  clear g0_3
  have hz3 : w.heap.size < w3.heap.size := Nat.le_trans hz0 ((hb1.then hb2).then hb3).size
  have hbx3 := fun o => (Below.refl w3.heap.size w3).al (Nat.le_refl _) o
  go_wp2_with fail
  refine (ht _ (hB3.then (hbx3 _))).mono ?_; rintro e w4 ⟨cs4, rfl, ho4, hb4⟩
  have hk4 := o_mod ho4 hw
  have hs4 := so_mod ho4 hw
  obtain ⟨v41, rfl, p1⟩ := ho4
  obtain ⟨D1, d1, rfl, -⟩ := own_sw p1
  clear p1
  have z4 := hb4.size
  have h34 := (hbx3 _).then hb4
  have r0_4 := bat hb4 w3.heap.size (by first | (simp; done) | (simp; omega)) 0
  have r1_4 := bat hb4 w3.heap.size (by first | (simp; done) | (simp; omega)) 1
  have r2_4 := bat hb4 w3.heap.size (by first | (simp; done) | (simp; omega)) 2
  have r3_4 := bat hb4 w3.heap.size (by first | (simp; done) | (simp; omega)) 3
  have r4_4 := bat hb4 w3.heap.size (by first | (simp; done) | (simp; omega)) 4
  simp at r0_4 r1_4 r2_4 r3_4 r4_4 z4 hs4
  have a0_4 := (bat h34 w.heap.size (by omega) 0).trans a0_3
  clear hb4
  have hbx4 := fun o => (Below.refl w4.heap.size w4).al (Nat.le_refl _) o
  go_wp2_with fail
  refine (hta _ ((hB3.then h34).then (hbx4 _))).mono ?_; rintro e w5 ⟨va5, rfl, ho5, hb5⟩
  have hk5 : RI lm w5 va5 args := OwI.rd ho5 la'
  have hs5 := OwI.sl ho5 la'
  obtain ⟨D5, d5, rfl, -⟩ := own_sw ho5
  clear ho5
  have z5 := hb5.size
  have h45 := (hbx4 _).then hb5
  have x0_5 := bat hb5 w4.heap.size (by first | (simp; done) | (simp; omega)) 0
  simp at x0_5 z5 hs5
  clear hb5
  go_wp2_with fail
  refine (hcM _ _ _ (KM.mv hk4 h45) hk5).mono ?_; rintro e w6 ⟨V6, rfl, hV6, hb6⟩
  unfold resV
  have hv6 : KRes w6 R [.int .i64 R.code, .int .i64 R.value, V6, .string R.mem, .int .i64 R.steps] := res_K hV6 hro
  obtain ⟨Ag, cg, rfl, -, -⟩ := OwI.cells5 hV6
  have z6 := hb6.size
  have h46 := h45.then hb6
  have h36 := h34.then h46
  have hbx6 := fun o => (Below.refl w6.heap.size w6).al (Nat.le_refl _) o
  have r0_6 := (bat h46 w3.heap.size (by omega) 0).trans r0_4
  have r1_6 := (bat h46 w3.heap.size (by omega) 1).trans r1_4
  have r2_6 := (bat h46 w3.heap.size (by omega) 2).trans r2_4
  have r3_6 := (bat h46 w3.heap.size (by omega) 3).trans r3_4
  have r4_6 := (bat h46 w3.heap.size (by omega) 4).trans r4_4
  have z36 : w3.heap.size < w6.heap.size := by omega
  have z46 : w4.heap.size < w6.heap.size := by omega
  have zw6 : w.heap.size < w6.heap.size := by omega
  go_wp2_with fail
  refine (e_Res R R _ _ _ (hv6.mv' (hbx6 _)) (hv3.mv' (h36.then (hbx6 _)))).mono ?_; rintro e w7 ⟨rfl, hb7⟩
  rw [decide_eq_true rfl]
  have h67 := (hbx6 _).then hb7
  have y0_7 := bat hb7 w6.heap.size (by first | (simp; done) | (simp; omega)) 0
  have y1_7 := bat hb7 w6.heap.size (by first | (simp; done) | (simp; omega)) 1
  have y2_7 := bat hb7 w6.heap.size (by first | (simp; done) | (simp; omega)) 2
  have y3_7 := bat hb7 w6.heap.size (by first | (simp; done) | (simp; omega)) 3
  have y4_7 := bat hb7 w6.heap.size (by first | (simp; done) | (simp; omega)) 4
  have z7 := hb7.size
  simp at y0_7 y1_7 y2_7 y3_7 y4_7 z7
  have h47 := h46.then h67
  have h37 := h34.then h47
  have a0_7 := (bat h37 w.heap.size (by omega) 0).trans a0_3
  have h57 := hb6.then h67
  have x0_7 := (bat h57 w4.heap.size (by omega) 0).trans x0_5
  clear hb7 hb6
  have hC7 := redrew5 (hB3.then h37)
  have hk4' := fun W hW => KM.mv hk4 (h47.then (w2 := W) hW)
  go_wp2_with fail
  go_region_held3 (fun W => W.cell? ⟨w.heap.size, 0, none⟩ = some (.slice A1 x.funcs.length c1) ∧ W.cell? ⟨w4.heap.size, 0, none⟩ = some (.slice D1 x.funcs.length d1))
    (first | exact ⟨a0_7, x0_7⟩ | exact ⟨a0_8, x0_8⟩ | exact ⟨a0_9, x0_9⟩)
    (first
      | (go_at_call 29
         refine (ht _ hC7).mono ?_; rintro e w8 ⟨cs8, rfl, ho8, hb8⟩
         replace hb8 := undrew5 hb8
         have hk8 := o_mod ho8 hw
         obtain ⟨t1, rfl, p1⟩ := ho8
         obtain ⟨E1, e1, rfl, -⟩ := own_sw p1
         clear p1
         have z8 := hb8.size
         have a0_8 := (bat hb8 w.heap.size (by omega) 0).trans a0_7
         have x0_8 := (bat hb8 w4.heap.size (by omega) 0).trans x0_7
         have he := e_Mod x x _ _ w8 (hk4' _ hb8) hk8
         rw [decide_eq_true rfl] at he)
      | (go_at_call 32
         refine he.mono ?_; rintro e w9 ⟨rfl, hb9⟩
         have a0_9 := (bat hb9 w.heap.size (by omega) 0).trans a0_8
         have x0_9 := (bat hb9 w4.heap.size (by omega) 0).trans x0_8))
  have h79 := hb8.then hb9
  clear he hk8 hk4 hk4'
  have h49 := h47.then h79
  have h39 := h34.then h49
  have h69 := h67.then h79
  have h59 := h57.then h79
  have z9 := h79.size
  have hB9 := hB3.then h39
  go_wp2_with fail
  refine (hta _ hB9).mono ?_; rintro e w10 ⟨va10, rfl, ho10, hb10⟩
  have hk10 : RI lm w10 va10 args := OwI.rd ho10 la'
  clear ho10
  go_wp2_with fail
  refine (e_same5 (hk5.mv (h59.then hb10)) hk10).mono ?_; rintro e w11 ⟨rfl, hb11⟩
  have h911 := hb10.then hb11
  clear hk10 hk5 hb10 hb11
  have h411 := h49.then h911
  have h311 := h39.then h911
  have h611 := h69.then h911
  have h711 := h79.then h911
  have h511 := h59.then h911
  have z11 := h911.size
  have x0_11 := (bat h911 w4.heap.size (by omega) 0).trans x0_9
  have hmp := mMod_le x
  have hq1 : mMod x ≤ 7340032 := by omega
  clear hmp
  go_wp2_with fail
  refine (m_Mod (w3.heap.size + 1) w4.heap.size x [_] 1 w11 (by omega) (by omega) (SMod.mv hs4 (Chg.of_below (hi := 0) z4 h411)) (by omega) (by omega)).mono ?_; rintro e w12 ⟨rfl, hc12⟩
  generalize hM1 : (mMod x : Int) = M1 at *
  have hM1a : 0 ≤ M1 := by omega
  have hM1b : M1 ≤ 7340032 := by omega
  clear hM1 hq1
  go_wp2_with fail
  refine (m_S (w4.heap.size + 1) w5.heap.size (.slice D5 args.length d5) args (1 + M1) w12 ((hs5.mv (Chg.of_below (hi := 0) z5 h511)).mv hc12) (by omega) (by omega)).mono ?_; rintro e w13 ⟨rfl, hc13⟩
  have z12 := hc12.size
  have z13 := hc13.size
  have h313 : Below w3.heap.size w3 w13 := (h311.trans (hc12.below.mono (by omega))).trans (hc13.below.mono (by omega))
  have hG13 := own_abv (own_abv (own_mv hV6 h611) (by omega) hc12.abv) (Nat.le_refl _) hc13.abv
  have hv13 : KRes w13 R [.int .i64 R.code, .int .i64 R.value, .slice Ag R.out.length cg, .string R.mem, .int .i64 R.steps] := res_K hG13 hro
  have gy := fun o => ((hc13.cellAt w6.heap.size (by omega) (.inr (by omega)) o).trans (hc12.cellAt w6.heap.size (by omega) (.inr (by omega)) o)).trans (bat h711 w6.heap.size (by omega) o)
  have y0_13 := (gy 0).trans y0_7
  have y1_13 := (gy 1).trans y1_7
  have y2_13 := (gy 2).trans y2_7
  have y3_13 := (gy 3).trans y3_7
  have y4_13 := (gy 4).trans y4_7
  have gr := fun o => ((hc13.cellAt w3.heap.size (by omega) (.inl (by omega)) o).trans (hc12.cellAt w3.heap.size (by omega) (.inl (by omega)) o)).trans (bat h411 w3.heap.size (by omega) o)
  have r0_13 := (gr 0).trans r0_4
  have r1_13 := (gr 1).trans r1_4
  have r2_13 := (gr 2).trans r2_4
  have r3_13 := (gr 3).trans r3_4
  have r4_13 := (gr 4).trans r4_4
  have hneg13 : decide ((1 : Int) + M1 + (args.length : Int) < 0) = false := by simp; omega
  clear gy gr hc12 hc13
  go_wp2_with fail
  refine (e_Res R R _ _ _ hv13 (hv3.mv' h313)).mono ?_; rintro e w14 ⟨rfl, hb14⟩
  rw [decide_eq_true rfl]
  have h314 := h313.then hb14
  have hG14 := own_mv hG13 hb14
  have z14 := hb14.size
  have y0_14 := (bat hb14 w6.heap.size (by omega) 0).trans y0_13
  have y1_14 := (bat hb14 w6.heap.size (by omega) 1).trans y1_13
  have y2_14 := (bat hb14 w6.heap.size (by omega) 2).trans y2_13
  have y3_14 := (bat hb14 w6.heap.size (by omega) 3).trans y3_13
  have y4_14 := (bat hb14 w6.heap.size (by omega) 4).trans y4_13
  have r0_14 := (bat hb14 w3.heap.size (by omega) 0).trans r0_13
  have r1_14 := (bat hb14 w3.heap.size (by omega) 1).trans r1_13
  have r2_14 := (bat hb14 w3.heap.size (by omega) 2).trans r2_13
  have r3_14 := (bat hb14 w3.heap.size (by omega) 3).trans r3_13
  have r4_14 := (bat hb14 w3.heap.size (by omega) 4).trans r4_13
  have hwr : ∀ W, Below w14.heap.size w14 W → Wr W Ag R.out.length := fun W hW => by
    obtain ⟨A', c', hv, hh, -⟩ := OwI.cells5 (own_mv hG14 hW)
    cases hv
    exact hh
  have hGb : R.out.length = 0 ∨ ∃ G, Ag = some ⟨G, 0, none⟩ ∧ w5.heap.size ≤ G ∧ G < w6.heap.size := by
    obtain ⟨A', c', hv, -, hh⟩ := OwI.cells5 hV6
    cases hv
    by_cases h0 : R.out.length = 0
    · exact .inl h0
    · exact .inr (hh (by omega))
  clear hV6 hG13 hG14 hv13
  go_wp2_with fail
  refine (m_Res R Ag R.out.length cg 1 w14 hro hwr (by omega) (by omega)).mono ?_; rintro e w15 ⟨rfl, W0, hW0, hw15⟩
  have hld := (hwr W0 hW0).held 1
  rw [← hw15] at hld
  have h515 : Below w5.heap.size w14 w15 := by rw [hw15]; exact below_marks Ag _ _ (hW0.mono (by omega)) hGb
  have gy : ∀ o, w15.cell? ⟨w6.heap.size, o, none⟩ = w14.cell? ⟨w6.heap.size, o, none⟩ := fun o => by
    rw [hw15]; exact (far_marks Ag _ _ W0 o hGb).trans (bat hW0 w6.heap.size (by omega) o)
  have y0_15 := (gy 0).trans y0_14
  have y1_15 := (gy 1).trans y1_14
  have y2_15 := (gy 2).trans y2_14
  have y3_15 := (gy 3).trans y3_14
  have y4_15 := (gy 4).trans y4_14
  have r0_15 := (bat h515 w3.heap.size (by omega) 0).trans r0_14
  have r1_15 := (bat h515 w3.heap.size (by omega) 1).trans r1_14
  have r2_15 := (bat h515 w3.heap.size (by omega) 2).trans r2_14
  have r3_15 := (bat h515 w3.heap.size (by omega) 3).trans r3_14
  have r4_15 := (bat h515 w3.heap.size (by omega) 4).trans r4_14
  have h315 : Below w3.heap.size w3 w15 := h314.trans (h515.mono (by omega))
  have z15 := h515.size
  clear gy hwr hw15 hW0
  go_wp2_with fail
  refine (h_Res R Ag R.out.length cg 1 w15 hro hld (by omega) (by omega)).mono ?_; rintro e w16 ⟨rfl, hb16⟩
  have z16 := hb16.size
  have h316 := h315.then hb16
  have hld16 := hld.mv hb16
  have y0_16 := (bat hb16 w6.heap.size (by omega) 0).trans y0_15
  have y1_16 := (bat hb16 w6.heap.size (by omega) 1).trans y1_15
  have y2_16 := (bat hb16 w6.heap.size (by omega) 2).trans y2_15
  have y3_16 := (bat hb16 w6.heap.size (by omega) 3).trans y3_15
  have y4_16 := (bat hb16 w6.heap.size (by omega) 4).trans y4_15
  have r0_16 := (bat hb16 w3.heap.size (by omega) 0).trans r0_15
  have r1_16 := (bat hb16 w3.heap.size (by omega) 1).trans r1_15
  have r2_16 := (bat hb16 w3.heap.size (by omega) 2).trans r2_15
  have r3_16 := (bat hb16 w3.heap.size (by omega) 3).trans r3_15
  have r4_16 := (bat hb16 w3.heap.size (by omega) 4).trans r4_15
  have a0_16 := (bat h316 w.heap.size (by omega) 0).trans a0_3
  have q0 : decide ((1 : Int) + (R.out.length : Int) < 0) = false := by simp; omega
  have q1 : ((1 + (R.out.length : Int)) != (1 + (R.out.length : Int))) = false := by simp
  have hB16 := hB3.then h316
  clear hld
  go_wp2_with fail
  refine (ht _ hB16).mono ?_; rintro e w17 ⟨cs17, rfl, ho17, hb17⟩
  have hk17 := o_mod ho17 hw
  obtain ⟨t1, rfl, p1⟩ := ho17
  clear p1
  go_wp2_with fail
  refine (hta _ (hB16.then hb17)).mono ?_; rintro e w18 ⟨va18, rfl, ho18, hb18⟩
  have hk18 : RI lm w18 va18 args := OwI.rd ho18 la'
  clear ho18
  go_wp2_with fail
  refine (hcM _ _ _ (KM.mv hk17 hb18) hk18).mono ?_; rintro e w19 ⟨V19, rfl, hV19, hb19⟩
  unfold resV
  have hv19 : KRes w19 R [.int .i64 R.code, .int .i64 R.value, V19, .string R.mem, .int .i64 R.steps] := res_K hV19 hro
  obtain ⟨Ah, ch, rfl, -, -⟩ := OwI.cells5 hV19
  have h1619 := (hb17.then hb18).then hb19
  have z19 := h1619.size
  have hbx19 := fun o => (Below.refl w19.heap.size w19).al (Nat.le_refl _) o
  have z319 : w3.heap.size < w19.heap.size := by omega
  have z619 : w6.heap.size < w19.heap.size := by omega
  have r0_19 := (bat h1619 w3.heap.size (by omega) 0).trans r0_16
  have r1_19 := (bat h1619 w3.heap.size (by omega) 1).trans r1_16
  have r2_19 := (bat h1619 w3.heap.size (by omega) 2).trans r2_16
  have r3_19 := (bat h1619 w3.heap.size (by omega) 3).trans r3_16
  have r4_19 := (bat h1619 w3.heap.size (by omega) 4).trans r4_16
  go_wp2_with fail
  refine (e_Res R R _ _ _ (hv19.mv' (hbx19 _)) (hv3.mv' ((h316.then h1619).then (hbx19 _)))).mono ?_; rintro e w20 ⟨rfl, hb20⟩
  rw [decide_eq_true rfl]
  have h1620 := h1619.then ((hbx19 _).then hb20)
  have y0_20 := (bat h1620 w6.heap.size (by omega) 0).trans y0_16
  have y1_20 := (bat h1620 w6.heap.size (by omega) 1).trans y1_16
  have y2_20 := (bat h1620 w6.heap.size (by omega) 2).trans y2_16
  have y3_20 := (bat h1620 w6.heap.size (by omega) 3).trans y3_16
  have y4_20 := (bat h1620 w6.heap.size (by omega) 4).trans y4_16
  go_wp2_with fail
  refine (h_Res R Ag R.out.length cg 1 w20 hro (hld16.mv h1620) (by omega) (by omega)).mono ?_; rintro e w21 ⟨rfl, hb21⟩
  go_wp2
  go_ret
  exact ⟨rfl, (hB16.then h1620).then hb21⟩
end Go.Proofs.YtkcgejbnhpccdaaGreat
