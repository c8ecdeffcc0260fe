import Derived.Test.YtkcgejbnhpccdaaGreatJ41
import Derived.Test.YtkcgejbnhpccdaaGreatJ37
set_option linter.unusedSimpArgs false
set_option linter.unusedVariables false
namespace Go.Proofs.YtkcgejbnhpccdaaGreat
open Go.RowKit
set_option maxRecDepth 20000 in
set_option maxHeartbeats 8000000 in
theorem s_Invoked (m : XMod) (cs : List Value) (k : Int) (va : Value) (args : List Int) (mem : ByteArray) (fuel : Int) (w : World) (hm : KMod lm w m cs) (ha : RI lm w va args) (hms : mem.size ≤ 1048576) :
    Calls Tryz.prog 15 #[.agg cs.toArray, .int .i64 k, va, .string mem, .int .i64 fuel] w (RetRes (resR m k args mem fuel) w) := by
  have hm' := Hd.mk hm
  obtain ⟨vm, rfl, hrm⟩ := hm
  obtain ⟨Am, cm, rfl, hcap, hlm, hm0⟩ := hrm.sm
  have hck := fun W (hW : Below w.heap.size w W) => s_Checked m _ W (KM.mv hm'.out hW)
  have hwk := fun W => s_l1In k 0 ((m.funcs.length : Int) - 1) W
  have hwf := fun W => s_l1In fuel 0 2000 W
  have ha' := Hd.mk ha
  have hlr := fun (fn : Nat) h h32 hf hk hg W (hW : Below w.heap.size w W) => s_l7Run m _ k va args mem fn W (KM.mv hm'.out hW) h (ha'.out.mv hW) h32 hf hk hg
  obtain ⟨Av, cv, rfl, -, hlv, -⟩ := ha.sm
  have ewl : IntKind.i64.wrap ((m.funcs.length : Int) - 1) = (m.funcs.length : Int) - 1 := IntWalk.i64_in _ (by omega)
  clear hrm ha
  have hbl := fun o => (Below.refl w.heap.size w).al (Nat.le_refl _) o
  obtain ⟨W0, hW0⟩ : ∃ W0 : World, W0 = (w.alloc (.cells #[.slice Am m.funcs.length cm] 38)).alloc (.cells #[.int .i64 0, .int .i64 0, .slice none 0 0, .string ⟨#[]⟩, .int .i64 0] 40) := ⟨_, rfl⟩
  have hz0 : W0.heap.size = w.heap.size + 2 := by rw [hW0]; simp
  have hb0 : Below w.heap.size w W0 := by rw [hW0]; exact (hbl _).al (by first | (simp; done) | (simp; omega)) _
  have hmb' : Hd (W0.cell? ⟨w.heap.size, 0, none⟩ = some (.slice Am m.funcs.length cm)) := ⟨by rw [hW0]; simp⟩
  have hrb' : Hd (W0.heap[w.heap.size + 1]? = some (.cells #[.int .i64 0, .int .i64 0, .slice none 0 0, .string ⟨#[]⟩, .int .i64 0] 40 (0, 0))) := ⟨by rw [hW0]; exact heap_new _ _ _ _ (by simp)⟩
  have hb0' := Hd.mk hb0
  have hW0' := Hd.mk hW0
  have hzw1 : w.heap.size + 1 < W0.heap.size := by omega
  clear hb0 hW0 hbl hz0
  generalize hR : resR m k args mem fuel = R
  have hR' := Hd.mk hR
  clear hR
  unfold resR modOk at hR'
  go_enter Tryz.func15, Tryz.ntmps15
  go_wp2_with fail
  rw [← hW0'.out]
  have x0 := hmb'.out
  go_wp2_with fail
  refine (hck _ hb0'.out).mono ?_; rintro e w1 ⟨rfl, hb1⟩
  have hB1 := Hd.mk (hb0'.out.then hb1)
  have hb1' := Hd.mk hb1
  have hz1 := hb1.size
  obtain ⟨cr, fr⟩ := row_facts ((hb1.block _ hzw1).trans hrb'.out)
  have q0 := cr 0
  have q1 := cr 1
  have q2 := cr 2
  have q3 := cr 3
  have q4 := cr 4
  simp at q0 q1 q2 q3 q4
  clear cr
  replace x0 := (bat hb1 w.heap.size (by omega) 0).trans x0
  have x0' := Hd.mk x0
  clear hb1 hck
  by_cases hq : checkM m = 0
  rotate_left
  · replace hR' := Hd.mk (show res6 = R by rw [← hR'.out, beqF hq]; rfl)
    have d0 := bneT hq
    generalize checkM m = qq at *
    clear hq
    go_wp2
    refine bodyPost_ret (v := resV res6 (.slice none 0 0)) (by simp [results, Tryz.results15, go_sem, resV, res6, q0, q1, q2, q3, q4]) rfl ⟨_, by rw [← hR'.out], by rw [← hR'.out]; exact ownI_nil _ _, ?_⟩
    repeat (refine Below.setCell ?_ (by first | (simp; done) | (simp; omega)) _)
    exact hB1.out
  have hmo : modOk m = true := by unfold modOk; rw [hq]; rfl
  rw [hq] at hR' ⊢
  replace hR' := Hd.mk (show resI m k args mem fuel = R from hR'.out)
  unfold resI invOk at hR'
  have hmo' := Hd.mk hmo
  clear hq hmo
  have hzw2 : w.heap.size < w1.heap.size := by omega
  go_wp2_with fail
  refine (hwk _).mono ?_; rintro e w2 ⟨rfl, rfl⟩
  cases hq : inR k 0 ((m.funcs.length : Int) - 1)
  · replace hR' := Hd.mk (show res6 = R by rw [← hR'.out, hq]; rfl)
    clear hq
    go_wp2
    refine bodyPost_ret (v := resV res6 (.slice none 0 0)) (by simp [results, Tryz.results15, go_sem, resV, res6, q0, q1, q2, q3, q4]) rfl ⟨_, by rw [← hR'.out], by rw [← hR'.out]; exact ownI_nil _ _, ?_⟩
    repeat (refine Below.setCell ?_ (by first | (simp; done) | (simp; omega)) _)
    exact hB1.out
  rw [hq] at hR'
  simp only [Bool.true_and] at hR'
  have hk0 : 0 ≤ k ∧ k < m.funcs.length := by unfold inR at hq; simp at hq; omega
  have hki : k.toNat < m.funcs.length := by omega
  clear hq hwk
  have hgd : m.funcs.getD k.toNat func0 = m.funcs[k.toNat] := by rw [List.getD_eq_getElem?_getD, List.getElem?_eq_getElem hki]; rfl
  obtain ⟨eb, eo, ecs, hA_, heb, ⟨fv1, fv2, rfl, hr_, hr2_⟩, hat_⟩ := (hm0.out).in0 (hB1.out) (k.toNat) (hki)
  cases hA_
  have hew := Nat.lt_of_lt_of_le heb (hB1.out).size
  have g0 := hat_ 0 _ rfl
  have g1 := hat_ 1 _ rfl
  have g2 := hat_ 2 _ rfl
  clear hat_
  simp at g0 g1 g2
  obtain ⟨Af, cf, rfl, hcf, hlf, hrf⟩ := hr_.sm
  obtain ⟨Ab, cb, rfl, hcb, hlb, hrb⟩ := hr2_.sm
  clear hr_ hr2_
  rw [hgd] at hR'
  have hgd' := Hd.mk hgd
  have hlr' := fun (fn : Nat) h32 hf hg W hW => hlr fn hmo'.out h32 hf hk0 hg W hW
  rw [hgd] at hlr'
  clear hgd hlr
  generalize m.funcs[k.toNat] = f at *
  have har := fun W (hW : Below w.heap.size w W) => s_l7Args _ (.slice Av args.length cv) (.slice Ab f.blocks.length cb) f.ret f.params args W (hrf.out.mv hW) (ha'.out.mv hW)
  obtain ⟨hk1, hk2⟩ := hk0
  go_wp2_with fail
  refine (har _ hB1.out).mono ?_; rintro e w2 ⟨rfl, hb2⟩
  have hB2 := Hd.mk (hB1.out.then hb2)
  have hb2' := Hd.mk (hb1'.out.then hb2)
  have hz2 := hb2.size
  have x2 := (bat hb2 w.heap.size hzw2 0).trans x0
  clear q0 q1 q2 q3 q4 fr hb2 x0
  obtain ⟨cr, fr⟩ := row_facts ((hb2'.out.block _ hzw1).trans hrb'.out)
  have q0 := cr 0
  have q1 := cr 1
  have q2 := cr 2
  have q3 := cr 3
  have q4 := cr 4
  simp at q0 q1 q2 q3 q4
  clear cr
  clear g0 g1 g2 har
  cases hq : argsOk f.params args
  · replace hR' := Hd.mk (show res6 = R by rw [← hR'.out, hq]; rfl)
    clear hq
    go_wp2
    refine bodyPost_ret (v := resV res6 (.slice none 0 0)) (by simp [results, Tryz.results15, go_sem, resV, res6, q0, q1, q2, q3, q4]) rfl ⟨_, by rw [← hR'.out], by rw [← hR'.out]; exact ownI_nil _ _, ?_⟩
    repeat (refine Below.setCell ?_ (by first | (simp; done) | (simp; omega)) _)
    exact hB2.out
  rw [hq] at hR'
  simp only [Bool.true_and] at hR'
  have hargs := Hd.mk hq
  clear hq
  by_cases h32 : mem.size = 32
  rotate_left
  · have d : ((mem.size : Int) != 32) = true := by simp; omega
    have d2 : (mem.size == 32) = false := by simpa using h32
    replace hR' := Hd.mk (show res6 = R by rw [← hR'.out, d2]; rfl)
    go_wp2
    refine bodyPost_ret (v := resV res6 (.slice none 0 0)) (by simp [results, Tryz.results15, go_sem, resV, res6, q0, q1, q2, q3, q4]) rfl ⟨_, by rw [← hR'.out], by rw [← hR'.out]; exact ownI_nil _ _, ?_⟩
    repeat (refine Below.setCell ?_ (by first | (simp; done) | (simp; omega)) _)
    exact hB2.out
  have d : ((mem.size : Int) != 32) = false := by simp; omega
  have d2 : (mem.size == 32) = true := by simpa using h32
  rw [d2] at hR'
  simp only [Bool.true_and] at hR'
  clear d2
  cases hq : inR fuel 0 2000
  · rw [hq] at hwf
    replace hR' := Hd.mk (show res6 = R by rw [← hR'.out, hq]; rfl)
    clear hq
    go_wp2_with fail
    refine (hwf _).mono ?_; rintro e w3 ⟨rfl, rfl⟩
    go_wp2
    refine bodyPost_ret (v := resV res6 (.slice none 0 0)) (by simp [results, Tryz.results15, go_sem, resV, res6, q0, q1, q2, q3, q4]) rfl ⟨_, by rw [← hR'.out], by rw [← hR'.out]; exact ownI_nil _ _, ?_⟩
    repeat (refine Below.setCell ?_ (by first | (simp; done) | (simp; omega)) _)
    exact hB2.out
  rw [hq] at hR' hwf
  rw [if_pos rfl] at hR'
  have hfu : 0 ≤ fuel ∧ fuel ≤ 2000 := by unfold inR at hq; simpa using hq
  clear hq
  obtain ⟨fn, rfl⟩ : ∃ fn : Nat, fuel = fn := ⟨fuel.toNat, by omega⟩
  rw [Int.toNat_natCast] at hR'
  have hrun := hlr' fn h32 (by omega) hargs.out w2 hB2.out
  rw [hR'.out] at hrun
  clear hlr' q0 q1 q2 q3 q4 fr
  have hzw3 : w.heap.size < w2.heap.size := by omega
  go_wp2_with fail
  refine (hwf _).mono ?_; rintro e w3 ⟨rfl, rfl⟩
  clear hwf
  go_wp2_with fail
  refine hrun.mono ?_; rintro e w3 ⟨v3, rfl, hown, hb3⟩
  have hB3 := Hd.mk (hB2.out.then hb3)
  obtain ⟨cr, fr⟩ := row_facts ((hb3.block _ (by omega)).trans ((hb2'.out.block _ hzw1).trans hrb'.out))
  have q0 := cr 0
  have q1 := cr 1
  have q2 := cr 2
  have q3 := cr 3
  have q4 := cr 4
  simp at q0 q1 q2 q3 q4
  clear cr
  have hz3 := hb3.size
  have hown' := Hd.mk (And.intro hown (show w.heap.size + 1 < w2.heap.size by omega))
  obtain ⟨A3, c3, rfl, -, -⟩ := own_shape hown
  clear hb3 hown hrun x2
  unfold resV
  go_wp2
  refine bodyPost_ret (v := resV R (.slice A3 R.out.length c3)) (by simp [results, Tryz.results15, go_sem, resV, q0, q1, q2, q3, q4]) rfl ⟨_, rfl, ?_, ?_⟩
  · refine own_lower (base := w2.heap.size) ?_ (by have := hown'.out.2; omega)
    repeat (refine own_far ?_ (by have := hown'.out.2; omega))
    exact hown'.out.1
  · repeat (refine Below.setCell ?_ (by first | (simp; done) | (simp; omega)) _)
    exact hB3.out
end Go.Proofs.YtkcgejbnhpccdaaGreat
