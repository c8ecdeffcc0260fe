/- The walk of FnPassTexts: it returns true and turns nothing that was there. No conditions. -/
import Derived.Test.YtdnbiohohbnhgaaDoorW8
set_option linter.unusedSimpArgs false
set_option linter.unusedVariables false
namespace Go.Proofs.YtdnbiohohbnhgaaDoor
open Go.RowKit
theorem l_big (A : Option Addr) (n c : Nat) (w : World) (hn : (n : Int) ≤ 9223372036854775807) : Calls Tryd.prog 14 #[.slice A n c] w (Same (.bool (decide ((1048576 : Int) < n))) w) := by
  go_enter Tryd.func14, Tryd.ntmps14
  go_wp2
  go_ret
  exact ⟨by simp, rfl⟩
set_option maxHeartbeats 4000000 in
theorem f_PassTexts (v : Value) (xs : List Int) (m : Int) (w : World) (hv : Rd lw 1 KB w v xs) (hm : w.cell? ⟨0, 0, none⟩ = some (.int .i64 m)) (h00 : 0 < w.heap.size) : Calls Tryd.prog 5 #[v] w (RetT w) := by
  obtain ⟨A, c, rfl, -, -, hv1⟩ := hv.sh
  clear hv
  have hlw : (xs.length : Int) ≤ 9223372036854775807 := by have := hv1.out.len; unfold lw at this; omega
  have hbig := fun W => l_big A xs.length c W hlw
  by_cases hs : xs.length ≤ 1048576
  case neg =>
    have hgt : decide ((1048576 : Int) < xs.length) = true := by simp; omega
    rw [hgt] at hbig
    go_enter Tryd.func5, Tryd.ntmps5
    go_wp2_with fail
    refine (hbig _).mono ?_; rintro e w1 ⟨rfl, rfl⟩
    go_wp2
    go_ret
    exact ⟨rfl, Below.refl _ _⟩
  have hgt : decide ((1048576 : Int) < xs.length) = false := by simp; omega
  rw [hgt] at hbig
  have hv := hv1.out.nar hs fun _ _ _ hk => hk
  have hv0 := Hd.mk hv
  clear hv1 hv hlw hgt
  have hD := fun W (hW : Below w.heap.size w W) => s_DrawPassText _ xs W (hv0.out.mv hW)
  have hD2 := fun W (hW : Below w.heap.size w W) => s_DrawPassesOf _ xs W (hv0.out.mv hW)
  have hmW := Hd.mk fun W (hW : Below w.heap.size w W) => (bat hW 0 h00 0).trans hm
  have hzW := Hd.mk fun W (hW : Below w.heap.size w W) => Nat.lt_of_lt_of_le h00 (Below.size hW)
  clear hm h00
  go_enter Tryd.func5, Tryd.ntmps5
  go_wp2_with fail
  refine (hbig _).mono ?_; rintro e w0 ⟨rfl, rfl⟩
  go_wp2_with fail
  refine (hD _ (Below.refl _ _)).mono ?_; rintro e w1 ⟨V1, l, rfl, hl, ho1, hb1⟩
  have hr1 := Hd.mk (row_ri ho1 (by omega))
  obtain ⟨A1, c1, rfl, -⟩ := own_shape ho1
  clear ho1 hbig hD
  have hsz := passText_size l
  have hrd := text_read l
  have hP := fun W (hW : Below w1.heap.size w1 W) => c_PassText _ l m W (hr1.out.mv hW) (hmW.out W (hb1.then hW)) (hzW.out W (hb1.then hW))
  have hQ := fun W (hW : Below w1.heap.size w1 W) => s_PassText _ l W (hr1.out.mv hW)
  generalize passText l = s at *
  go_wp2_with fail
  refine (hP _ (Below.refl _ _)).mono ?_; rintro e w2 ⟨rfl, hb2⟩
  have hB2 := hb1.then hb2
  have hps := c_PassesOf s m w2 (by omega) (hmW.out _ hB2) (hzW.out _ hB2)
  clear hP
  go_wp2_with fail
  refine hps.mono ?_; rintro e w3 ⟨V3, rfl, ho3, hb3⟩
  have hul := passesOf_len s
  have hr3 := Hd.mk (row_ri ho3 (by omega))
  obtain ⟨A3, c3, rfl, -⟩ := own_shape ho3
  clear ho3 hps
  have hB3 := hB2.then hb3
  have hss : (s.toList != s.toList) = false := by simp
  have hss2 : (s.toList == s.toList) = true := by simp
  go_wp2_with fail
  refine (hQ _ (hb2.then hb3)).mono ?_; rintro e w4 ⟨rfl, hb4⟩
  have hB4 := hB3.then hb4
  clear hQ
  have hemp := empty_iff s
  by_cases h0 : s.size = 0
  · rw [decide_eq_true h0] at hemp
    have hBE := hB4
    clear hrd hr3 hul hB2 hB3 hb2 hb3 hb4 hB4
    have hts := hD2 _ hBE
    go_wp2_with fail
    refine hts.mono ?_; rintro e w5 ⟨t, rfl, ht, hb5⟩
    have hB5 := hBE.then hb5
    have hps := c_PassesOf t m w5 ht (hmW.out _ hB5) (hzW.out _ hB5)
    have hqs := fun W => s_PassesOf t W ht
    have hul := passesOf_len t
    have hrt := fun x => read_text t x
    generalize passesOf t = r at *
    go_wp2_with fail
    refine hps.mono ?_; rintro e w6 ⟨V6, rfl, ho6, hb6⟩
    have hr6 := Hd.mk (row_ri ho6 (by omega))
    obtain ⟨A6, c6, rfl, -⟩ := own_shape ho6
    have hB6 := hB5.then hb6
    clear ho6 hps
    go_wp2_with fail
    refine (hqs _).mono ?_; rintro e w7 ⟨V7, rfl, ho7, hb7⟩
    have hr7 := Hd.mk (row_ri ho7 (by omega))
    obtain ⟨A7, c7, rfl, -⟩ := own_shape ho7
    have hB7 := hB6.then hb7
    clear ho7 hqs
    have hsi := l_sameInts _ _ _ _ w7 (hr6.out.mv hb7) hr7.out
    rw [decide_eq_true rfl] at hsi
    have hbb : (r.isSome == r.isSome) = true := by cases r <;> rfl
    go_wp2_with fail
    refine hsi.mono ?_; rintro e w8 ⟨rfl, hb8⟩
    have hB8 := hB7.then hb8
    cases r with
    | none =>
      go_wp2
      go_ret
      exact ⟨rfl, hB8⟩
    | some x =>
      have hpt := c_PassText _ x m w8 ((hr6.out.mv hb7).mv hb8) (hmW.out _ hB8) (hzW.out _ hB8)
      rw [hrt x rfl] at hpt
      have htt : (t.toList == t.toList) = true := by simp
      go_wp2_with fail
      refine hpt.mono ?_; rintro e w9 ⟨rfl, hb9⟩
      go_wp2
      go_ret
      exact ⟨rfl, hB8.then hb9⟩
  · rw [decide_eq_false h0] at hemp
    have hps := hrd h0
    rw [hps] at hr3 hul
    rw [hps]
    simp only [Option.getD_some, Option.isSome_some] at hr3 hul ⊢
    have hsi := l_sameInts _ _ _ _ w4 (hr3.out.mv hb4) (hr1.out.mv ((hb2.then hb3).then hb4))
    rw [decide_eq_true rfl] at hsi
    clear hrd hps
    go_wp2_with fail
    refine hsi.mono ?_; rintro e wE ⟨rfl, hbE⟩
    have hBE := hB4.then hbE
    clear hr3 hul hB2 hB3 hb2 hb3 hb4 hB4 hbE hsi
    have hts := hD2 _ hBE
    go_wp2_with fail
    refine hts.mono ?_; rintro e w5 ⟨t, rfl, ht, hb5⟩
    have hB5 := hBE.then hb5
    have hps := c_PassesOf t m w5 ht (hmW.out _ hB5) (hzW.out _ hB5)
    have hqs := fun W => s_PassesOf t W ht
    have hul := passesOf_len t
    have hrt := fun x => read_text t x
    generalize passesOf t = r at *
    go_wp2_with fail
    refine hps.mono ?_; rintro e w6 ⟨V6, rfl, ho6, hb6⟩
    have hr6 := Hd.mk (row_ri ho6 (by omega))
    obtain ⟨A6, c6, rfl, -⟩ := own_shape ho6
    have hB6 := hB5.then hb6
    clear ho6 hps
    go_wp2_with fail
    refine (hqs _).mono ?_; rintro e w7 ⟨V7, rfl, ho7, hb7⟩
    have hr7 := Hd.mk (row_ri ho7 (by omega))
    obtain ⟨A7, c7, rfl, -⟩ := own_shape ho7
    have hB7 := hB6.then hb7
    clear ho7 hqs
    have hsi := l_sameInts _ _ _ _ w7 (hr6.out.mv hb7) hr7.out
    rw [decide_eq_true rfl] at hsi
    have hbb : (r.isSome == r.isSome) = true := by cases r <;> rfl
    go_wp2_with fail
    refine hsi.mono ?_; rintro e w8 ⟨rfl, hb8⟩
    have hB8 := hB7.then hb8
    cases r with
    | none =>
      go_wp2
      go_ret
      exact ⟨rfl, hB8⟩
    | some x =>
      have hpt := c_PassText _ x m w8 ((hr6.out.mv hb7).mv hb8) (hmW.out _ hB8) (hzW.out _ hB8)
      rw [hrt x rfl] at hpt
      have htt : (t.toList == t.toList) = true := by simp
      go_wp2_with fail
      refine hpt.mono ?_; rintro e w9 ⟨rfl, hb9⟩
      go_wp2
      go_ret
      exact ⟨rfl, hB8.then hb9⟩
end Go.Proofs.YtdnbiohohbnhgaaDoor
