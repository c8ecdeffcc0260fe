/- The walk of FnExactUnitsOf: it returns true and turns nothing that was there. No conditions. -/
import Derived.Test.YtdnbiohohbnhgaaS5
import Derived.Test.YtdnbiohohbnhgaaL3
import Derived.Test.YtdnbiohohbnhgaaL5
import Derived.Test.YtdnbiohohbnhgaaO1
import Derived.Deep.RegionHeld3
set_option linter.unusedSimpArgs false
set_option linter.unusedVariables false
namespace Go.Proofs.Ytdnbiohohbnhgaa
open Go.RowKit
theorem mL_phi (l : List XPhi) : mL mPhi l = wL wPhi l := by
  unfold mL wL
  induction l with
  | nil => rfl
  | cons p r ih => simp only [List.map_cons, List.sum_cons, List.length_cons, mPhi, wPhi] at *; omega
theorem mL_inst (l : List XInst) : mL mInst l ≤ 6 * wL wInst l := by
  unfold mL wL
  induction l with
  | nil => simp
  | cons p r ih => simp only [List.map_cons, List.sum_cons, List.length_cons, mInst, wInst] at *; omega
theorem mL_block (l : List XBlock) : mL mBlock l ≤ 6 * wL wBlock l := by
  have h : ∀ b : XBlock, mBlock b ≤ 6 * wBlock b + 4 := fun b => by
    have h1 := mL_phi b.phis
    have h2 := mL_inst b.insts
    unfold mL at h1 h2
    unfold mBlock wBlock
    omega
  unfold mL wL
  induction l with
  | nil => simp
  | cons p r ih =>
    have := h p
    simp only [List.map_cons, List.sum_cons, List.length_cons] at *; omega
theorem mFunc_le (f : XFunc) : mFunc f ≤ 6 * wFunc f := by
  have := mL_block f.blocks
  unfold mL at this
  unfold mFunc wFunc
  omega
/-- The law's answer, and that nothing that was there turned. -/
def RetT (w : World) (e : Ending) (w' : World) : Prop := e = .returned (.bool true) ∧ Below w.heap.size w w'
theorem units_len (f : XFunc) : (if funcOk f 3 then unitsOf f else []).length ≤ lm := by
  split
  · rename_i h
    have : countOf f ≤ 60 := by
      unfold funcOk at h
      simp at h
      omega
    have h2 : (unitsOf f).length ≤ (countOf f).toNat := by
      unfold unitsOf
      refine Nat.le_trans (List.length_filter_le _ _) ?_
      simp [upTo]
    show _ ≤ 1048576
    omega
  · simp
theorem OwI.cells {lo : Nat} {w : World} {v : Value} {xs : List Int} (h : w.ownsRow lo 2 1 v xs.length (xs.map (Value.int .i64))) : ∃ A c, v = .slice A xs.length c ∧ Wr w A xs.length ∧ (0 < xs.length → ∃ G, A = some ⟨G, 0, none⟩ ∧ lo ≤ G ∧ G < w.heap.size) := by
  obtain ⟨h1, h2⟩ := h
  rcases h2 with ⟨rfl, h3⟩ | ⟨g, cap, cur, rfl, h5, h6, h7, h8, h9, h10⟩
  · exact ⟨none, 0, by rw [h3], fun h => absurd h (by omega), fun h => absurd h (by omega)⟩
  · refine ⟨_, _, rfl, fun _ => ⟨g, cur, _, rfl, h6, fun i hi => ⟨xs[i], ?_⟩⟩, fun _ => ⟨g, rfl, h5, (Array.getElem?_eq_some_iff.1 h6).1⟩⟩
    have : (cur.toList.take (xs.length * 1))[i]? = (xs.map (Value.int .i64))[i]? := by rw [h10]
    rw [List.getElem?_take_of_lt (by omega)] at this
    simpa [hi] using this
theorem SFunc.mv {lo hi l' h' : Nat} {w w' : World} {x : XFunc} {cs : List Value} (h : SFunc lo hi w x cs) (hc : Chg l' h' w w') : SFunc lo hi w' x cs := by
  obtain ⟨v, i, v', rfl, r, s⟩ := h; exact ⟨v, i, v', rfl, r.mv hc, s.mv hc⟩
theorem row_ri {lo : Nat} {w : World} {v : Value} {xs : List Int} (h : w.ownsRow lo 2 1 v xs.length (xs.map (Value.int .i64))) (hl : xs.length ≤ 1048576) : RI lm w v xs := OwI.rd (OwI.of h) hl
theorem e_same {v u : Value} {xs : List Int} {w : World} (hv : RI lm w v xs) (hu : RI lm w u xs) : Calls Try.prog 9 #[v, u] w (Ret (.bool true) w) := by
  have h := e_I v u xs xs w hv hu
  rwa [decide_eq_true rfl] at h
theorem undrew {w w' : World} (h : Below w.drew.heap.size w.drew w') : Below w.heap.size w w' := ⟨h.os, h.tape, h.output, h.size, h.block⟩
theorem redrew {B : Nat} {w w' : World} (h : Below B w w') : Below B w w'.drew := ⟨h.os, h.tape, h.output, h.size, h.block⟩
set_option maxHeartbeats 4000000 in
theorem f_ExactUnitsOf (x : XFunc) (cs : List Value) (w : World) (hx : KFunc lw w x cs) : Calls Try.prog 3 #[.agg cs.toArray] w (RetT w) := by
  have hbl := fun o => (Below.refl w.heap.size w).al (Nat.le_refl _) o
  have hz := fun W hW => z_Func x cs 1048576 W (KM.mv hx hW) (by omega) (by omega)
  rcases sub_cases 1048576 (wFunc x) (by omega) with ⟨e, h⟩ | ⟨e, h, h'⟩
  · rw [e] at hz
    obtain ⟨v1, v2, rfl, -, -⟩ := hx
    clear e
    go_enter Try.func3, Try.ntmps3
    go_wp2_with fail
    refine (hz _ (hbl _)).mono ?_; rintro e w1 ⟨rfl, hb1⟩
    go_wp2
    go_ret
    exact ⟨rfl, (hbl _).then hb1⟩
  have hw : wFunc x ≤ lm := by show _ ≤ 1048576; omega
  have hm := mFunc_le x
  rw [e] at hz
  clear e
  have hx' := nar_func hx hw
  have ht := fun W (hW : Below w.heap.size w W) => t_Func x cs W (KM.mv hx' hW)
  obtain ⟨v1, v2, rfl, r1, r2⟩ := hx
  obtain ⟨A1, c1, rfl, -, -, -⟩ := r1.sh
  obtain ⟨A2, c2, rfl, -, -, -⟩ := r2.sh
  clear hx' r1 r2
  generalize hus : (if funcOk x 3 then unitsOf x else []) = us
  have hul : us.length ≤ 1048576 := by rw [← hus]; exact units_len x
  have hsU := fun W cs hk => s_UnitsOf x cs W hk
  have hcU := fun W cs hk => c_UnitsOf x cs W hk
  rw [hus] at hsU hcU
  clear hus
  go_enter Try.func3, Try.ntmps3
  go_wp2_with fail
  refine (hz _ (hbl _)).mono ?_; rintro e w0 ⟨rfl, hb0⟩
  have hB0 := (hbl _).then hb0
  have g0 := bat hb0 w.heap.size (by first | (simp; done) | (simp; omega)) 0
  have g1 := bat hb0 w.heap.size (by first | (simp; done) | (simp; omega)) 1
  have g2 := bat hb0 w.heap.size (by first | (simp; done) | (simp; omega)) 2
  have hz0 := hb0.size
  simp at g0 g1 g2 hz0
  clear hb0 hz
  have hneg : decide ((1048576 : Int) - wFunc x < 0) = false := by simp; omega
  go_wp2_with fail
  refine (ht _ hB0).mono ?_; rintro e w1 ⟨cs1, rfl, ho1, hb1⟩
  have hk1 := o_func ho1 hw
  clear ho1
  go_wp2_with fail
  refine (hsU _ _ hk1).mono ?_; rintro e w2 ⟨V0, rfl, hV0, hb2⟩
  have hB2 := hb1.then hb2
  have g0_2 := (bat hB2 w.heap.size (by omega) 0).trans g0
  have g1_2 := (bat hB2 w.heap.size (by omega) 1).trans g1
  have g2_2 := (bat hB2 w.heap.size (by omega) 2).trans g2
  have hv2 := row_ri hV0 hul
  obtain ⟨Aw, cw, rfl, -⟩ := own_shape hV0
  clear hV0 hk1 hb1 hb2
  go_wp2_with fail
  refine (ht _ (hB0.then hB2)).mono ?_; rintro e w3 ⟨cs3, rfl, ho3, hb3⟩
  have hk3 := o_func ho3 hw
  have hs3 := so_func ho3 hw
  obtain ⟨u1, u2, rfl, p1, p2⟩ := ho3
  obtain ⟨D1, d1, rfl, -⟩ := own_sw p1
  obtain ⟨D2, d2, rfl, -⟩ := own_sw p2
  clear p1 p2
  have hz2 := hB2.size
  have hz3 := hb3.size
  have hbx := fun o => (Below.refl w3.heap.size w3).al (Nat.le_refl _) o
  go_wp2_with fail
  refine (hcU _ [_, _, _] (KM.mv hk3 ?hBx)).mono ?_
  case hBx =>
    repeat (refine Below.setCell ?_ (by first | (simp; done) | (simp; omega)) _)
    exact hbx _
  rintro e w4 ⟨G0, rfl, hG0, hb4⟩
  have hB34 : Below w3.heap.size w3 w4 := by
    refine Below.then ?_ hb4
    repeat (refine Below.setCell ?_ (by first | (simp; done) | (simp; omega)) _)
    exact hbx _
  have x0 := bat hb4 w3.heap.size (by first | (simp; done) | (simp; omega)) 0
  have x1 := bat hb4 w3.heap.size (by first | (simp; done) | (simp; omega)) 1
  have x2 := bat hb4 w3.heap.size (by first | (simp; done) | (simp; omega)) 2
  have hz4 := hb4.size
  simp at x0 x1 x2 hz4
  replace hG0 := own_lower (base' := w3.heap.size) hG0 (by first | (simp; done) | (simp; omega))
  have hcells := OwI.cells hG0
  obtain ⟨Ag, cg, rfl, -, -⟩ := hcells
  go_wp2_with fail
  refine (e_same (row_ri hG0 hul) (hv2.mv (hb3.then hB34))).mono ?_; rintro e w5 ⟨rfl, hb5⟩
  have hB5 := ((hB2.then hb3).then hB34).then hb5
  have g0_5 := (bat hB5 w.heap.size (by omega) 0).trans g0
  have g1_5 := (bat hB5 w.heap.size (by omega) 1).trans g1
  have g2_5 := (bat hB5 w.heap.size (by omega) 2).trans g2
  have x0_5 := (bat hb5 w3.heap.size (by omega) 0).trans x0
  have x1_5 := (bat hb5 w3.heap.size (by omega) 1).trans x1
  have x2_5 := (bat hb5 w3.heap.size (by omega) 2).trans x2
  have hk3' := fun W hW => KM.mv hk3 (hB34.then (hb5.then (w2 := W) hW))
  have hC5 := redrew (hB0.then hB5)
  have hz5 := hB5.size
  have hz5' := hb5.size
  go_wp2_with fail
  go_region_held3 (fun W => W.cell? ⟨w.heap.size, 0, none⟩ = some (.slice A1 x.params.length c1) ∧ W.cell? ⟨w.heap.size, 1, none⟩ = some (.int .i64 x.ret) ∧ W.cell? ⟨w.heap.size, 2, none⟩ = some (.slice A2 x.blocks.length c2) ∧ W.cell? ⟨w3.heap.size, 0, none⟩ = some (.slice D1 x.params.length d1) ∧ W.cell? ⟨w3.heap.size, 1, none⟩ = some (.int .i64 x.ret) ∧ W.cell? ⟨w3.heap.size, 2, none⟩ = some (.slice D2 x.blocks.length d2))
    (first | exact ⟨g0_5, g1_5, g2_5, x0_5, x1_5, x2_5⟩ | exact ⟨g0_6, g1_6, g2_6, x0_6, x1_6, x2_6⟩ | exact ⟨g0_7, g1_7, g2_7, x0_7, x1_7, x2_7⟩)
    (first
      | (go_at_call 7
         refine (ht _ hC5).mono ?_; rintro e w6 ⟨cs6, rfl, ho6, hb6⟩
         replace hb6 := undrew hb6
         have hk6 := o_func ho6 hw
         obtain ⟨y1, y2, rfl, p1, p2⟩ := ho6
         obtain ⟨E1, e1, rfl, -⟩ := own_sw p1
         obtain ⟨E2, e2, rfl, -⟩ := own_sw p2
         clear p1 p2
         have g0_6 := (bat hb6 w.heap.size (by omega) 0).trans g0_5
         have g1_6 := (bat hb6 w.heap.size (by omega) 1).trans g1_5
         have g2_6 := (bat hb6 w.heap.size (by omega) 2).trans g2_5
         have x0_6 := (bat hb6 w3.heap.size (by omega) 0).trans x0_5
         have x1_6 := (bat hb6 w3.heap.size (by omega) 1).trans x1_5
         have x2_6 := (bat hb6 w3.heap.size (by omega) 2).trans x2_5
         have he := e_Func x x _ _ w6 (hk3' _ hb6) hk6
         rw [decide_eq_true rfl] at he
         have hz6 := hb6.size)
      | (go_at_call 10
         refine he.mono ?_; rintro e w7 ⟨rfl, hb7⟩
         have g0_7 := (bat hb7 w.heap.size (by omega) 0).trans g0_6
         have g1_7 := (bat hb7 w.heap.size (by omega) 1).trans g1_6
         have g2_7 := (bat hb7 w.heap.size (by omega) 2).trans g2_6
         have x0_7 := (bat hb7 w3.heap.size (by omega) 0).trans x0_6
         have x1_7 := (bat hb7 w3.heap.size (by omega) 1).trans x1_6
         have x2_7 := (bat hb7 w3.heap.size (by omega) 2).trans x2_6))
  have h46 := hb5.then hb6
  clear he hk6 hk3
  have h47 := h46.then hb7
  have h37 := hB34.then h47
  have h27 := hb3.then h37
  have hz7 := h37.size
  go_wp2_with fail
  refine (m_Func w2.heap.size w3.heap.size x [_, _, _] 1 w7 hz7 (by omega) (hs3.mv (Chg.of_below (hi := 0) hz3 h37)) (by omega) (by omega)).mono ?_; rintro e w8 ⟨rfl, hc8⟩
  have hpos : decide ((1 : Int) + (mFunc x : Int) < 0) = false := by simp; omega
  have hG8 := own_abv (own_mv hG0 h47) (Nat.le_refl _) hc8.abv
  have h28 : Below w2.heap.size w2 w8 := h27.trans hc8.below
  clear hs3 hc8
  go_wp2_with fail
  refine (e_same (row_ri hG8 hul) (hv2.mv h28)).mono ?_; rintro e w9 ⟨rfl, hb9⟩
  have h29 := h28.then hb9
  obtain ⟨Ag', cg', hv, hwr, hGb⟩ := OwI.cells (own_mv hG8 hb9)
  cases hv
  go_wp2_with fail
  refine (m_I Ag us.length cg 1 w9 hul hwr (by omega) (by omega)).mono ?_; rintro e w10 ⟨rfl, hw10⟩
  have hld := hwr.held 1
  rw [← hw10] at hld
  have h210 : Below w2.heap.size w2 w10 := by
    rw [hw10]
    by_cases h0 : us.length = 0
    · rw [h0]; exact h29
    · obtain ⟨G, rfl, hG1, hG2⟩ := hGb (by omega)
      exact below_setAll _ (Nat.le_trans hz3 hG1) _ h29
  clear hw10 hwr hGb
  go_wp2_with fail
  refine (h_I Ag us.length cg 1 w10 hul hld (by omega) (by omega)).mono ?_; rintro e w11 ⟨rfl, hb11⟩
  have h211 := h210.then hb11
  have hB11 := hB2.then h211
  have q0 : decide ((1 : Int) + (us.length : Int) < 0) = false := by simp; omega
  have q1 : ((1 + (us.length : Int)) != (1 + (us.length : Int))) = false := by simp
  have g0_11 := (bat hB11 w.heap.size (by omega) 0).trans g0
  have g1_11 := (bat hB11 w.heap.size (by omega) 1).trans g1
  have g2_11 := (bat hB11 w.heap.size (by omega) 2).trans g2
  go_wp2_with fail
  refine (ht _ (hB0.then hB11)).mono ?_; rintro e w12 ⟨cs12, rfl, ho12, hb12⟩
  have hk12 := o_func ho12 hw
  obtain ⟨y1, y2, rfl, p1, p2⟩ := ho12
  obtain ⟨F1, f1, rfl, -⟩ := own_sw p1
  obtain ⟨F2, f2, rfl, -⟩ := own_sw p2
  clear p1 p2
  go_wp2_with fail
  refine (hcU _ [_, _, _] hk12).mono ?_; rintro e w13 ⟨V1, rfl, hV1, hb13⟩
  obtain ⟨Av, cv, rfl, -⟩ := own_shape hV1
  go_wp2_with fail
  refine (e_same (row_ri hV1 hul) (hv2.mv ((h211.then hb12).then hb13))).mono ?_; rintro e w14 ⟨rfl, hb14⟩
  go_wp2_with fail
  refine (h_I Ag us.length cg 1 w14 hul (((hld.mv hb11).mv (hb12.then hb13)).mv hb14) (by omega) (by omega)).mono ?_; rintro e w15 ⟨rfl, hb15⟩
  go_wp2
  go_ret
  exact ⟨rfl, (((hB0.then hB11).then hb12).then hb13).then (hb14.then hb15)⟩
end Go.Proofs.Ytdnbiohohbnhgaa
