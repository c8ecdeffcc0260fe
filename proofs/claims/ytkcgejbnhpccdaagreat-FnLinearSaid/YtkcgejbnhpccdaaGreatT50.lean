import Derived.Test.YtkcgejbnhpccdaaGreatT47
import Derived.Test.YtkcgejbnhpccdaaGreatT36
import Derived.Test.YtkcgejbnhpccdaaGreatT40
import Derived.Test.YtkcgejbnhpccdaaGreatT48
import Derived.Test.YtkcgejbnhpccdaaGreatT49
import Derived.Test.YtkcgejbnhpccdaaGreatT39
import Derived.Test.YtkcgejbnhpccdaaGreatT20
import Derived.Test.YtkcgejbnhpccdaaGreatT29
import Derived.Test.YtkcgejbnhpccdaaGreatT23
set_option linter.unusedSimpArgs false
set_option linter.unusedVariables false
namespace Go.Proofs.YtkcgejbnhpccdaaGreat
open Go.RowKit
set_option maxRecDepth 20000 in
set_option maxHeartbeats 8000000 in
theorem s_Invoked (m : XMod) (cs : List Value) (k : Int) (va : Value) (args : List Int) (mem : ByteArray) (fuel : Int) (w : World) (hm : KMod lm w m cs) (ha : RI lm w va args) (hms : mem.size ≤ 1048576) :
    Calls Tryz.prog 15 #[.agg cs.toArray, .int .i64 k, va, .string mem, .int .i64 fuel] w (RetRes (resR m k args mem fuel) w) := by
  have hm' := Hd.mk hm
  obtain ⟨vm, rfl, hrm⟩ := hm
  obtain ⟨Am, cm, rfl, hcap, hlm, hm0⟩ := hrm.sm
  have hck := fun W (hW : Below w.heap.size w W) => s_Checked m _ W (KM.mv hm'.out hW)
  have hwk := fun W => s_l1In k 0 ((m.funcs.length : Int) - 1) W
  have hwf := fun W => s_l1In fuel 0 2000 W
  have ha' := Hd.mk ha
  have hlr := fun (fn : Nat) h h32 hf hk hg W (hW : Below w.heap.size w W) => s_l7Run m _ k va args mem fn W (KM.mv hm'.out hW) h (ha'.out.mv hW) h32 hf hk hg
  obtain ⟨Av, cv, rfl, -, hlv, -⟩ := ha.sm
  have ewl : IntKind.i64.wrap ((m.funcs.length : Int) - 1) = (m.funcs.length : Int) - 1 := IntWalk.i64_in _ (by omega)
  clear hrm ha
  have hbl := fun o => (Below.refl w.heap.size w).al (Nat.le_refl _) o
  obtain ⟨W0, hW0⟩ : ∃ W0 : World, W0 = (w.alloc (.cells #[.slice Am m.funcs.length cm] 38)).alloc (.cells #[.int .i64 0, .int .i64 0, .slice none 0 0, .string ⟨#[]⟩, .int .i64 0] 40) := ⟨_, rfl⟩
  have hz0 : W0.heap.size = w.heap.size + 2 := by rw [hW0]; simp
  have hb0 : Below w.heap.size w W0 := by rw [hW0]; exact (hbl _).al (by first | (simp; done) | (simp; omega)) _
  have hmb' : Hd (W0.cell? ⟨w.heap.size, 0, none⟩ = some (.slice Am m.funcs.length cm)) := ⟨by rw [hW0]; simp⟩
  have hrb' : Hd (W0.heap[w.heap.size + 1]? = some (.cells #[.int .i64 0, .int .i64 0, .slice none 0 0, .string ⟨#[]⟩, .int .i64 0] 40 (0, 0))) := ⟨by rw [hW0]; exact heap_new _ _ _ _ (by simp)⟩
  have hb0' := Hd.mk hb0
  have hW0' := Hd.mk hW0
  have hzw1 : w.heap.size + 1 < W0.heap.size := by omega
  clear hb0 hW0 hbl hz0
  generalize hR : resR m k args mem fuel = R
  have hR' := Hd.mk hR
  clear hR
  unfold resR modOk at hR'
  go_enter Tryz.func15, Tryz.ntmps15
  go_wp2_with fail
  rw [← hW0'.out]
  have x0 := hmb'.out
  go_wp2_with fail
  refine (hck _ hb0'.out).mono ?_; rintro e w1 ⟨rfl, hb1⟩
  have hB1 := Hd.mk (hb0'.out.then hb1)
  have hb1' := Hd.mk hb1
  have hz1 := hb1.size
  obtain ⟨cr, fr⟩ := row_facts ((hb1.block _ hzw1).trans hrb'.out)
  have q0 := cr 0
  have q1 := cr 1
  have q2 := cr 2
  have q3 := cr 3
  have q4 := cr 4
  simp at q0 q1 q2 q3 q4
  clear cr
  replace x0 := (bat hb1 w.heap.size (by omega) 0).trans x0
  have x0' := Hd.mk x0
  clear hb1 hck
  by_cases hq : checkM m = 0
  rotate_left
  · replace hR' := Hd.mk (show res6 = R by rw [← hR'.out, beqF hq]; rfl)
    have d0 := bneT hq
    generalize checkM m = qq at *
    clear hq
    go_wp2
    refine bodyPost_ret (v := resV res6 (.slice none 0 0)) (by simp [results, Tryz.results15, go_sem, resV, res6, q0, q1, q2, q3, q4]) rfl ⟨_, by rw [← hR'.out], by rw [← hR'.out]; exact ownI_nil _ _, ?_⟩
    repeat (refine Below.setCell ?_ (by first | (simp; done) | (simp; omega)) _)
    exact hB1.out
  have hmo : modOk m = true := by unfold modOk; rw [hq]; rfl
  rw [hq] at hR' ⊢
  replace hR' := Hd.mk (show resI m k args mem fuel = R from hR'.out)
  unfold resI invOk at hR'
  have hmo' := Hd.mk hmo
  clear hq hmo
  have hzw2 : w.heap.size < w1.heap.size := by omega
  go_wp2_with fail
  refine (hwk _).mono ?_; rintro e w2 ⟨rfl, rfl⟩
  cases hq : inR k 0 ((m.funcs.length : Int) - 1)
  · replace hR' := Hd.mk (show res6 = R by rw [← hR'.out, hq]; rfl)
    clear hq
    go_wp2
    refine bodyPost_ret (v := resV res6 (.slice none 0 0)) (by simp [results, Tryz.results15, go_sem, resV, res6, q0, q1, q2, q3, q4]) rfl ⟨_, by rw [← hR'.out], by rw [← hR'.out]; exact ownI_nil _ _, ?_⟩
    repeat (refine Below.setCell ?_ (by first | (simp; done) | (simp; omega)) _)
    exact hB1.out
  rw [hq] at hR'
  simp only [Bool.true_and] at hR'
  have hk0 : 0 ≤ k ∧ k < m.funcs.length := by unfold inR at hq; simp at hq; omega
  have hki : k.toNat < m.funcs.length := by omega
  clear hq hwk
  have hgd : m.funcs.getD k.toNat func0 = m.funcs[k.toNat] := by rw [List.getD_eq_getElem?_getD, List.getElem?_eq_getElem hki]; rfl
  obtain ⟨eb, eo, ecs, hA_, heb, ⟨fv1, fv2, rfl, hr_, hr2_⟩, hat_⟩ := (hm0.out).in0 (hB1.out) (k.toNat) (hki)
  cases hA_
  have hew := Nat.lt_of_lt_of_le heb (hB1.out).size
  have g0 := hat_ 0 _ rfl
  have g1 := hat_ 1 _ rfl
  have g2 := hat_ 2 _ rfl
  clear hat_
  simp at g0 g1 g2
  obtain ⟨Af, cf, rfl, hcf, hlf, hrf⟩ := hr_.sm
  obtain ⟨Ab, cb, rfl, hcb, hlb, hrb⟩ := hr2_.sm
  clear hr_ hr2_
  rw [hgd] at hR'
  have hgd' := Hd.mk hgd
  have hlr' := fun (fn : Nat) h32 hf hg W hW => hlr fn hmo'.out h32 hf hk0 hg W hW
  rw [hgd] at hlr'
  clear hgd hlr
  generalize m.funcs[k.toNat] = f at *
  have har := fun W (hW : Below w.heap.size w W) => s_l7Args _ (.slice Av args.length cv) (.slice Ab f.blocks.length cb) f.ret f.params args W (hrf.out.mv hW) (ha'.out.mv hW)
  obtain ⟨hk1, hk2⟩ := hk0
  go_wp2_with fail
  refine (har _ hB1.out).mono ?_; rintro e w2 ⟨rfl, hb2⟩
  have hB2 := Hd.mk (hB1.out.then hb2)
  have hb2' := Hd.mk (hb1'.out.then hb2)
  have hz2 := hb2.size
  have x2 := (bat hb2 w.heap.size hzw2 0).trans x0
  clear q0 q1 q2 q3 q4 fr hb2 x0
  obtain ⟨cr, fr⟩ := row_facts ((hb2'.out.block _ hzw1).trans hrb'.out)
  have q0 := cr 0
  have q1 := cr 1
  have q2 := cr 2
  have q3 := cr 3
  have q4 := cr 4
  simp at q0 q1 q2 q3 q4
  clear cr
  clear g0 g1 g2 har
  cases hq : argsOk f.params args
  · replace hR' := Hd.mk (show res6 = R by rw [← hR'.out, hq]; rfl)
    clear hq
    go_wp2
    refine bodyPost_ret (v := resV res6 (.slice none 0 0)) (by simp [results, Tryz.results15, go_sem, resV, res6, q0, q1, q2, q3, q4]) rfl ⟨_, by rw [← hR'.out], by rw [← hR'.out]; exact ownI_nil _ _, ?_⟩
    repeat (refine Below.setCell ?_ (by first | (simp; done) | (simp; omega)) _)
    exact hB2.out
  rw [hq] at hR'
  simp only [Bool.true_and] at hR'
  have hargs := Hd.mk hq
  clear hq
  by_cases h32 : mem.size = 32
  rotate_left
  · have d : ((mem.size : Int) != 32) = true := by simp; omega
    have d2 : (mem.size == 32) = false := by simpa using h32
    replace hR' := Hd.mk (show res6 = R by rw [← hR'.out, d2]; rfl)
    go_wp2
    refine bodyPost_ret (v := resV res6 (.slice none 0 0)) (by simp [results, Tryz.results15, go_sem, resV, res6, q0, q1, q2, q3, q4]) rfl ⟨_, by rw [← hR'.out], by rw [← hR'.out]; exact ownI_nil _ _, ?_⟩
    repeat (refine Below.setCell ?_ (by first | (simp; done) | (simp; omega)) _)
    exact hB2.out
  have d : ((mem.size : Int) != 32) = false := by simp; omega
  have d2 : (mem.size == 32) = true := by simpa using h32
  rw [d2] at hR'
  simp only [Bool.true_and] at hR'
  clear d2
  cases hq : inR fuel 0 2000
  · rw [hq] at hwf
    replace hR' := Hd.mk (show res6 = R by rw [← hR'.out, hq]; rfl)
    clear hq
    go_wp2_with fail
    refine (hwf _).mono ?_; rintro e w3 ⟨rfl, rfl⟩
    go_wp2
    refine bodyPost_ret (v := resV res6 (.slice none 0 0)) (by simp [results, Tryz.results15, go_sem, resV, res6, q0, q1, q2, q3, q4]) rfl ⟨_, by rw [← hR'.out], by rw [← hR'.out]; exact ownI_nil _ _, ?_⟩
    repeat (refine Below.setCell ?_ (by first | (simp; done) | (simp; omega)) _)
    exact hB2.out
  rw [hq] at hR' hwf
  rw [if_pos rfl] at hR'
  have hfu : 0 ≤ fuel ∧ fuel ≤ 2000 := by unfold inR at hq; simpa using hq
  clear hq
  obtain ⟨fn, rfl⟩ : ∃ fn : Nat, fuel = fn := ⟨fuel.toNat, by omega⟩
  rw [Int.toNat_natCast] at hR'
  have hrun := hlr' fn h32 (by omega) hargs.out w2 hB2.out
  rw [hR'.out] at hrun
  clear hlr' q0 q1 q2 q3 q4 fr
  have hzw3 : w.heap.size < w2.heap.size := by omega
  go_wp2_with fail
  refine (hwf _).mono ?_; rintro e w3 ⟨rfl, rfl⟩
  clear hwf
  go_wp2_with fail
  refine hrun.mono ?_; rintro e w3 ⟨v3, rfl, hown, hb3⟩
  have hB3 := Hd.mk (hB2.out.then hb3)
  obtain ⟨cr, fr⟩ := row_facts ((hb3.block _ (by omega)).trans ((hb2'.out.block _ hzw1).trans hrb'.out))
  have q0 := cr 0
  have q1 := cr 1
  have q2 := cr 2
  have q3 := cr 3
  have q4 := cr 4
  simp at q0 q1 q2 q3 q4
  clear cr
  have hz3 := hb3.size
  have hown' := Hd.mk (And.intro hown (show w.heap.size + 1 < w2.heap.size by omega))
  obtain ⟨A3, c3, rfl, -, -⟩ := own_shape hown
  clear hb3 hown hrun x2
  unfold resV
  go_wp2
  refine bodyPost_ret (v := resV R (.slice A3 R.out.length c3)) (by simp [results, Tryz.results15, go_sem, resV, q0, q1, q2, q3, q4]) rfl ⟨_, rfl, ?_, ?_⟩
  · refine own_lower (base := w2.heap.size) ?_ (by have := hown'.out.2; omega)
    repeat (refine own_far ?_ (by have := hown'.out.2; omega))
    exact hown'.out.1
  · repeat (refine Below.setCell ?_ (by first | (simp; done) | (simp; omega)) _)
    exact hB3.out
structure XOra where
  func : Int
  args : List Int
  mem : ByteArray
  want : XRes
def KOracle (L : Nat) (w : World) (x : XOra) (cs : List Value) : Prop := ∃ va vo, cs = [.int .i64 x.func, va, .string x.mem, .int .i64 x.want.code, .int .i64 x.want.value, vo, .string x.want.mem, .int .i64 x.want.steps] ∧ RI L w va x.args ∧ RI L w vo x.want.out
instance {L : Nat} : KM (KOracle L) := ⟨fun ⟨v, v', h, r, s⟩ hb => ⟨v, v', h, r.mv hb, s.mv hb⟩⟩
def holdsB (m : XMod) (o : XOra) : Bool := (resR m o.func o.args o.mem 2000).code != 6 && sameR (resR m o.func o.args o.mem 2000) o.want
set_option maxRecDepth 20000 in
set_option maxHeartbeats 4000000 in
theorem c_Holds (m : XMod) (cm : List Value) (o : XOra) (co : List Value) (w : World) (hm : KMod lm w m cm) (ho : KOracle lm w o co) (hms : o.mem.size ≤ 1048576) : Calls Tryz.prog 22 #[.agg cm.toArray, .agg co.toArray] w (Ret (.bool (holdsB m o)) w) := by
  have hm' := Hd.mk hm
  obtain ⟨vm, rfl, hrm⟩ := hm
  obtain ⟨Am, cmm, rfl, -, -, -⟩ := hrm.sm
  obtain ⟨va, vo, rfl, ra, ro⟩ := ho
  have hra := Hd.mk ra
  have hro := Hd.mk ro
  obtain ⟨Aa, ca, rfl, -, -, -⟩ := ra.sm
  obtain ⟨Ao, coo, rfl, -, -, -⟩ := ro.sm
  obtain ⟨of, oa, om, ⟨oc, ov, oo, omm, os⟩⟩ := o
  simp only at *
  clear hrm ra ro
  have hin := fun W (hW : Below w.heap.size w W) => c_Invoked m _ of (.slice Aa oa.length ca) oa om 2000 W (KM.mv hm'.out hW) (hra.out.mv hW) hms
  have hrl := resR_out m of oa om 2000
  unfold holdsB
  simp only
  generalize resR m of oa om 2000 = R at *
  obtain ⟨W0, hW0⟩ : ∃ W0 : World, W0 = (w.alloc (.cells #[.slice Am m.funcs.length cmm] 38)).alloc (.cells #[.int .i64 of, .slice Aa oa.length ca, .string om, .int .i64 oc, .int .i64 ov, .slice Ao oo.length coo, .string omm, .int .i64 os] 48) := ⟨_, rfl⟩
  have hB0 : Hd (Below w.heap.size w W0) := ⟨by rw [hW0]; exact ((Below.refl w.heap.size w).al (Nat.le_refl _) _).al (by simp) _⟩
  have hz0 : w.heap.size + 1 < W0.heap.size := by rw [hW0]; simp
  have x0 : W0.cell? ⟨w.heap.size, 0, none⟩ = some (.slice Am m.funcs.length cmm) := by rw [hW0]; simp
  have hzo : Hd (∀ j u, [Value.int .i64 of, .slice Aa oa.length ca, .string om, .int .i64 oc, .int .i64 ov, .slice Ao oo.length coo, .string omm, .int .i64 os][j]? = some u → W0.cell? ⟨w.heap.size + 1, j, none⟩ = some u) := ⟨fun j u hu => by rw [hW0]; exact new_cell _ _ _ (by simp) j u (by simpa using hu)⟩
  have y0 := hzo.out 0 _ rfl
  have y1 := hzo.out 1 _ rfl
  have y2 := hzo.out 2 _ rfl
  have hW0' := Hd.mk hW0
  clear hW0
  go_enter Tryz.func22, Tryz.ntmps22
  go_wp2_with fail
  rw [← hW0'.out]
  go_wp2_with fail
  refine (hin _ hB0.out).mono ?_; rintro e w1 ⟨v1, rfl, hown, hb1⟩
  have hB1 := Hd.mk (hB0.out.then hb1)
  have hb1' := Hd.mk hb1
  have hz1 := hb1.size
  have hri := Hd.mk ((OwI.of hown).rd hrl)
  obtain ⟨A1, c1, rfl, -, -⟩ := own_shape hown
  have q3 := (bat hb1 (w.heap.size + 1) hz0 3).trans (hzo.out 3 _ rfl)
  have q4 := (bat hb1 (w.heap.size + 1) hz0 4).trans (hzo.out 4 _ rfl)
  have q5 := (bat hb1 (w.heap.size + 1) hz0 5).trans (hzo.out 5 _ rfl)
  have q6 := (bat hb1 (w.heap.size + 1) hz0 6).trans (hzo.out 6 _ rfl)
  have q7 := (bat hb1 (w.heap.size + 1) hz0 7).trans (hzo.out 7 _ rfl)
  have ql : w.heap.size + 1 < w1.heap.size := by omega
  have hal := Hd.mk fun (o : Obj) => (Below.refl w1.heap.size w1).al (Nat.le_refl _) o
  have hsm := fun W (hW : Below w1.heap.size w1 W) => c_isSeenAs R ⟨oc, ov, oo, omm, os⟩ _ _ W ⟨_, rfl, hri.out.mv hW⟩ ⟨_, rfl, hro.out.mv (hB1.out.then hW)⟩
  clear hb1 hown hin x0 y0 y1 y2
  unfold resV
  cases h6 : R.code != 6 with
  | false =>
    go_wp2
    go_ret
    exact ⟨by rw [h6]; rfl, hB1.out.then (hal.out _)⟩
  | true =>
    go_wp2_with fail
    refine (hsm _ (hal.out _)).mono ?_; rintro e w2 ⟨rfl, hb2⟩
    go_wp2
    go_ret
    exact ⟨by rw [h6]; rfl, (hB1.out.then (hal.out _)).then hb2⟩
set_option maxRecDepth 20000 in
set_option maxHeartbeats 4000000 in
theorem s_Holds (m : XMod) (cm : List Value) (o : XOra) (co : List Value) (w : World) (hm : KMod lm w m cm) (ho : KOracle lm w o co) (hms : o.mem.size ≤ 1048576) : Calls Tryz.prog 23 #[.agg cm.toArray, .agg co.toArray] w (Ret (.bool (holdsB m o)) w) := by
  have hm' := Hd.mk hm
  obtain ⟨vm, rfl, hrm⟩ := hm
  obtain ⟨Am, cmm, rfl, -, -, -⟩ := hrm.sm
  obtain ⟨va, vo, rfl, ra, ro⟩ := ho
  have hra := Hd.mk ra
  have hro := Hd.mk ro
  obtain ⟨Aa, ca, rfl, -, -, -⟩ := ra.sm
  obtain ⟨Ao, coo, rfl, -, -, -⟩ := ro.sm
  obtain ⟨of, oa, om, ⟨oc, ov, oo, omm, os⟩⟩ := o
  simp only at *
  clear hrm ra ro
  have hin := fun W (hW : Below w.heap.size w W) => s_Invoked m _ of (.slice Aa oa.length ca) oa om 2000 W (KM.mv hm'.out hW) (hra.out.mv hW) hms
  have hrl := resR_out m of oa om 2000
  unfold holdsB
  simp only
  generalize resR m of oa om 2000 = R at *
  obtain ⟨W0, hW0⟩ : ∃ W0 : World, W0 = (w.alloc (.cells #[.slice Am m.funcs.length cmm] 38)).alloc (.cells #[.int .i64 of, .slice Aa oa.length ca, .string om, .int .i64 oc, .int .i64 ov, .slice Ao oo.length coo, .string omm, .int .i64 os] 48) := ⟨_, rfl⟩
  have hB0 : Hd (Below w.heap.size w W0) := ⟨by rw [hW0]; exact ((Below.refl w.heap.size w).al (Nat.le_refl _) _).al (by simp) _⟩
  have hz0 : w.heap.size + 1 < W0.heap.size := by rw [hW0]; simp
  have x0 : W0.cell? ⟨w.heap.size, 0, none⟩ = some (.slice Am m.funcs.length cmm) := by rw [hW0]; simp
  have hzo : Hd (∀ j u, [Value.int .i64 of, .slice Aa oa.length ca, .string om, .int .i64 oc, .int .i64 ov, .slice Ao oo.length coo, .string omm, .int .i64 os][j]? = some u → W0.cell? ⟨w.heap.size + 1, j, none⟩ = some u) := ⟨fun j u hu => by rw [hW0]; exact new_cell _ _ _ (by simp) j u (by simpa using hu)⟩
  have y0 := hzo.out 0 _ rfl
  have y1 := hzo.out 1 _ rfl
  have y2 := hzo.out 2 _ rfl
  have hW0' := Hd.mk hW0
  clear hW0
  go_enter Tryz.func23, Tryz.ntmps23
  go_wp2_with fail
  rw [← hW0'.out]
  go_wp2_with fail
  refine (hin _ hB0.out).mono ?_; rintro e w1 ⟨v1, rfl, hown, hb1⟩
  have hB1 := Hd.mk (hB0.out.then hb1)
  have hb1' := Hd.mk hb1
  have hz1 := hb1.size
  have hri := Hd.mk ((OwI.of hown).rd hrl)
  obtain ⟨A1, c1, rfl, -, -⟩ := own_shape hown
  have q3 := (bat hb1 (w.heap.size + 1) hz0 3).trans (hzo.out 3 _ rfl)
  have q4 := (bat hb1 (w.heap.size + 1) hz0 4).trans (hzo.out 4 _ rfl)
  have q5 := (bat hb1 (w.heap.size + 1) hz0 5).trans (hzo.out 5 _ rfl)
  have q6 := (bat hb1 (w.heap.size + 1) hz0 6).trans (hzo.out 6 _ rfl)
  have q7 := (bat hb1 (w.heap.size + 1) hz0 7).trans (hzo.out 7 _ rfl)
  have ql : w.heap.size + 1 < w1.heap.size := by omega
  have hal := Hd.mk fun (o : Obj) => (Below.refl w1.heap.size w1).al (Nat.le_refl _) o
  have hsm := fun W (hW : Below w1.heap.size w1 W) => s_l19Same R ⟨oc, ov, oo, omm, os⟩ _ _ W ⟨_, rfl, hri.out.mv hW⟩ ⟨_, rfl, hro.out.mv (hB1.out.then hW)⟩
  clear hb1 hown hin x0 y0 y1 y2
  unfold resV
  cases h6 : R.code != 6 with
  | false =>
    go_wp2
    go_ret
    exact ⟨by rw [h6]; rfl, hB1.out.then (hal.out _)⟩
  | true =>
    go_wp2_with fail
    refine (hsm _ (hal.out _)).mono ?_; rintro e w2 ⟨rfl, hb2⟩
    go_wp2
    go_ret
    exact ⟨by rw [h6]; rfl, (hB1.out.then (hal.out _)).then hb2⟩
theorem s_l1Open (v : Value) (xs : List Int) (w0 w : World) (hv : Rd lm 1 KB w0 v xs) (hb : Below w0.heap.size w0 w) : Calls Tryz.prog 50 #[v] w (fun e w' => e = .returned (.pointer (some ⟨w.heap.size, 0, none⟩)) ∧ RdS w0.heap.size w' w.heap.size ∧ Below w.heap.size w w') := by
  obtain ⟨A, c, rfl, -, hl, hv0⟩ := hv.sm
  have hbs := hb.size
  have hb' := Hd.mk hb
  clear hv hb
  go_enter Tryz.func50, Tryz.ntmps50
  go_wp2
  go_ret
  refine ⟨rfl, ?_, (Below.refl _ _).al (Nat.le_refl _) _⟩
  refine ⟨hbs, A, xs.length, c, 0, heap_new _ _ _ _ rfl, Nat.zero_le _, hl, fun i hi => ?_⟩
  obtain ⟨b, off, cs, hA, hbl, ⟨rfl, q1, q2⟩, hat⟩ := hv0.out.in0 (hb'.out.then ((Below.refl _ _).al (Nat.le_refl _) _)) i hi
  have g0 := hat 0 _ rfl
  simp only [Nat.mul_one, Nat.add_zero] at g0
  exact ⟨b, off, xs[i], hA, hbl, q1, q2, g0⟩
structure MD (g base T : Nat) (v : Value) (n : Nat) (cF : List Value) (W : World) : Prop where
  o : W.ownsRow base 35 3 v n cF
  fe : FEs (fun q => q < base ∨ T ≤ q) W n cF
  hg : g < base
  hT : T ≤ W.heap.size
  oT : ∀ k, v.ownBlock = some k → k < T
  n1 : 1 ≤ n
  n2 : n ≤ 2
theorem MD.go {g base T n : Nat} {v : Value} {cF : List Value} {W W' : World} (h : MD g base T v n cF W) {E : Nat → Prop} (hF : Fr E W W') (hE : ∀ q, E q → q < base ∨ T ≤ q) : MD g base T v n cF W' := by
  have hb := own_in h.o
  have hF' : Fr (fun q => q < base ∨ T ≤ q) W W' := hF.sub hE
  exact ⟨own_fr h.o hF' (fun k hk e => by have := hb k hk; have := h.oT k hk; omega), h.fe.go hF' (fun q e => .inl e), h.hg, Nat.le_trans h.hT hF.size, h.oT, h.n1, h.n2⟩
theorem MD.bl {g base T n : Nat} {v : Value} {cF : List Value} {W W' : World} (h : MD g base T v n cF W) (hb : Below W.heap.size W W') : MD g base T v n cF W' := h.go (Fr.of (fun _ => False) hb) fun _ e => e.elim
theorem MD.gb {g base T n : Nat} {v : Value} {cF : List Value} {W W' : World} (h : MD g base T v n cF W) (hb : W.grownBy W' (some g)) : MD g base T v n cF W' := h.go (Fr.gb hb) fun q e => .inl (by injection e with e; rw [← e]; exact h.hg)
theorem MD.rd {g base T n : Nat} {v : Value} {cF : List Value} {W : World} (h : MD g base T v n cF W) : ∃ m : XMod, (m.funcs.length = n ∧ ∀ x ∈ m.funcs, okF x) ∧ KMod lm W m [v] := by
  have hb := own_in h.o
  have := h.hg
  obtain ⟨xs, h1, h2, h3⟩ := (FEs.rd (E := fun q => q = g) h.o h.fe (fun k hk e => by have := hb k hk; omega) (fun q e => .inl (.inl (by omega))) (by have := h.n2; show _ ≤ 1048576; omega)).out
  exact ⟨⟨xs⟩, ⟨h1, h2⟩, v, rfl, h3⟩
theorem MD.at {g base T n : Nat} {v : Value} {cF : List Value} {W : World} (h : MD g base T v n cF W) (k : Nat) (hk : k < n) : ∃ b cap A c ps ret A3 n3 c3, v = .slice (some ⟨b, 0, none⟩) n cap ∧ (W.cell? ⟨b, k * 3, none⟩ = some (.slice A ps.length c) ∧ W.cell? ⟨b, k * 3 + 1, none⟩ = some (.int .i64 ret) ∧ W.cell? ⟨b, k * 3 + 2, none⟩ = some (.slice A3 n3 c3)) ∧ ((∀ p ∈ ps, isW p) ∧ ps.length ≤ 4) ∧ Hd (Bx (fun q => q = g) (fun w => RI lm w (.slice A ps.length c) ps) W) ∧ b < W.heap.size := by
  obtain ⟨cs, h1, h2⟩ := h.fe k hk
  obtain ⟨A, c, ps, ret, vB, rfl, h3, h4, h5, h6⟩ := h2
  obtain ⟨xs, -, -, hr⟩ := h6.out
  obtain ⟨A3, c3, rfl, -, -, -⟩ := hr.sm
  obtain ⟨Av, cap, rfl, -, -, -, hA⟩ := own_shape h.o
  obtain ⟨b, rfl, hb, hc⟩ := hA (by omega)
  exact ⟨b, cap, A, c, ps, ret, A3, _, c3, rfl, ⟨hc _ _ ((h1 0 (by omega)).trans rfl), hc _ _ ((h1 1 (by omega)).trans rfl), hc _ _ ((h1 2 (by omega)).trans rfl)⟩, ⟨h3.2, h3.1⟩, ⟨fun w hF => (h5.go (Fr.refl _ _) (fun q e => .inl (.inl (by have := h.hg; omega)))) w hF⟩, hb⟩
theorem resR_out30 (m : XMod) (k : Int) (args : List Int) (mem : ByteArray) (fuel : Int) : (resR m k args mem fuel).out.length ≤ 30 := by
  unfold resR resI
  split
  · rename_i hm
    split
    · rename_i h
      unfold invOk at h
      simp only [Bool.and_eq_true, beq_iff_eq] at h
      obtain ⟨⟨⟨h1, h2⟩, h3⟩, h4⟩ := h
      exact (callR_ok (modOk_parts hm).1 fuel.toNat 6 k args (rs0 mem) (rs0_ok mem h3 _) (args_rng h2).2).1.out
    · exact Nat.zero_le _
  · exact Nat.zero_le _
def oraV (x : XOra) (A1 : Option Addr) (c1 : Nat) (A2 : Option Addr) (c2 : Nat) : List Value := [.int .i64 x.func, .slice A1 x.args.length c1, .string x.mem, .int .i64 x.want.code, .int .i64 x.want.value, .slice A2 x.want.out.length c2, .string x.want.mem, .int .i64 x.want.steps]
def RetO (lo g : Nat) (w : World) (e : Ending) (w' : World) : Prop := ∃ (x : XOra) (A1 : Option Addr) (c1 : Nat) (A2 : Option Addr) (c2 : Nat), e = .returned (.agg (oraV x A1 c1 A2 c2).toArray) ∧ x.mem.size = 32 ∧ Bx (fun q => q < w.heap.size ∨ w'.heap.size ≤ q) (fun w => RI lm w (.slice A1 x.args.length c1) x.args) w' ∧ Bx (fun q => q < w.heap.size ∨ w'.heap.size ≤ q) (fun w => RI lm w (.slice A2 x.want.out.length c2) x.want.out) w' ∧ RdS lo w' g ∧ w.grownBy w' (some g)
theorem own_bxr {W : World} {base : Nat} {v : Value} {xs : List Int} (h : W.ownsRow base 2 1 v xs.length (xs.map (.int .i64))) {E : Nat → Prop} (hE : ∀ k, v.ownBlock = some k → ¬ E k) (hl : xs.length ≤ lm) : Bx E (fun w => RI lm w v xs) W := fun _ hF => (OwI.of (own_fr h hF hE)).rd hl
end Go.Proofs.YtkcgejbnhpccdaaGreat
