import Derived.Test.YtkcgejbnhpccdaaGreatT44
import Derived.StillTailTactics
set_option linter.unusedSimpArgs false
set_option linter.unusedVariables false
namespace Go.Proofs.YtkcgejbnhpccdaaGreat
open Go.RowKit
set_option maxRecDepth 20000 in
set_option maxHeartbeats 8000000 in
theorem c_invoked (m : XMod) (cs : List Value) (k : Int) (va : Value) (args : List Int) (mem : ByteArray) (fuel : Int) (w : World) (hm : KMod lm w m cs) (hok : modOk m = true) (ha : RI lm w va args) (hms : mem.size ≤ 1048576) :
    Calls Tryz.prog 45 #[.agg cs.toArray, .int .i64 k, va, .string mem, .int .i64 fuel] w (RetRes (resI m k args mem fuel) w) := by
  have hm' := Hd.mk hm
  obtain ⟨hsh, hck⟩ := modOk_parts hok
  have hsp := (shape_parts hsh).1
  have hrn := Hd.mk (modOk_rn hok)
  have hsh' := Hd.mk hsh
  obtain ⟨vm, rfl, hrm⟩ := hm
  obtain ⟨Am, cm, rfl, hcap, hlm, hm0⟩ := hrm.sm
  have hwk := fun W => c_within k 0 ((m.funcs.length : Int) - 1) W
  have hwf := fun W => c_within fuel 0 2000 W
  have ha' := Hd.mk ha
  obtain ⟨Av, cv, rfl, -, hlv, -⟩ := ha.sm
  have ewl : IntKind.i64.wrap ((m.funcs.length : Int) - 1) = (m.funcs.length : Int) - 1 := IntWalk.i64_in _ (by omega)
  clear hrm hsh hck hok ha
  have hbl := fun o => (Below.refl w.heap.size w).al (Nat.le_refl _) o
  obtain ⟨W0, hW0⟩ : ∃ W0 : World, W0 = (w.alloc (.cells #[.slice Am m.funcs.length cm] 38)).alloc (.cells #[.int .i64 0, .int .i64 0, .slice none 0 0, .string ⟨#[]⟩, .int .i64 0] 40) := ⟨_, rfl⟩
  have hz0 : W0.heap.size = w.heap.size + 2 := by rw [hW0]; simp
  have hb0 : Below w.heap.size w W0 := by rw [hW0]; exact (hbl _).al (by first | (simp; done) | (simp; omega)) _
  have hmb : W0.cell? ⟨w.heap.size, 0, none⟩ = some (.slice Am m.funcs.length cm) := by rw [hW0]; simp
  have hrb : W0.heap[w.heap.size + 1]? = some (.cells #[.int .i64 0, .int .i64 0, .slice none 0 0, .string ⟨#[]⟩, .int .i64 0] 40 (0, 0)) := by rw [hW0]; exact heap_new _ _ _ _ (by simp)
  have hrb' := Hd.mk hrb
  have hb0' := Hd.mk hb0
  have hW0' := Hd.mk hW0
  have hmb' := Hd.mk hmb
  have hz0' := Hd.mk hz0
  have hzw : w.heap.size < W0.heap.size := by omega
  have hzw1 : w.heap.size + 1 < W0.heap.size := by omega
  clear hb0 hW0 hbl hrb hz0
  generalize hR : resI m k args mem fuel = R
  have hR' := Hd.mk hR
  clear hR
  unfold resI invOk at hR'
  go_enter Tryz.func45, Tryz.ntmps45
  go_wp2_with fail
  rw [← hW0'.out]
  go_wp2_with fail
  refine (hwk _).mono ?_; rintro e w1 ⟨rfl, rfl⟩
  obtain ⟨cr, fr⟩ := row_facts hrb'.out
  have q0 := cr 0
  have q1 := cr 1
  have q2 := cr 2
  have q3 := cr 3
  have q4 := cr 4
  simp at q0 q1 q2 q3 q4
  cases hq : inR k 0 ((m.funcs.length : Int) - 1)
  · replace hR' := Hd.mk (show res6 = R by rw [← hR'.out, hq]; rfl)
    clear hq
    go_wp2
    refine bodyPost_ret (v := resV res6 (.slice none 0 0)) (by simp [results, Tryz.results45, go_sem, resV, res6, q0, q1, q2, q3, q4]) rfl ⟨_, by rw [← hR'.out], by rw [← hR'.out]; exact ownI_nil _ _, ?_⟩
    repeat (refine Below.setCell ?_ (by first | (simp; done) | (simp; omega)) _)
    exact hb0'.out
  rw [hq] at hR'
  simp only [Bool.true_and] at hR'
  have hk0 : 0 ≤ k ∧ k < m.funcs.length := by unfold inR at hq; simp at hq; omega
  have hki : k.toNat < m.funcs.length := by omega
  clear hq hwk
  have hgd : m.funcs.getD k.toNat func0 = m.funcs[k.toNat] := by rw [List.getD_eq_getElem?_getD, List.getElem?_eq_getElem hki]; rfl
  obtain ⟨eb, eo, ecs, hA_, heb, ⟨fv1, fv2, rfl, hr_, hr2_⟩, hat_⟩ := (hm0.out).in0 (hb0'.out) (k.toNat) (hki)
  cases hA_
  have hew := Nat.lt_of_lt_of_le heb (hb0'.out).size
  have g0 := hat_ 0 _ rfl
  have g1 := hat_ 1 _ rfl
  have g2 := hat_ 2 _ rfl
  clear hat_
  simp at g0 g1 g2
  obtain ⟨Af, cf, rfl, hcf, hlf, hrf⟩ := hr_.sm
  obtain ⟨Ab, cb, rfl, hcb, hlb, hrb⟩ := hr2_.sm
  clear hr_ hr2_
  have hKf : Hd (KFunc lm w (m.funcs.getD k.toNat func0) [.slice Af m.funcs[k.toNat].params.length cf, .int .i64 m.funcs[k.toNat].ret, .slice Ab m.funcs[k.toNat].blocks.length cb]) := ⟨by rw [hgd]; exact ⟨_, _, rfl, hrf.out, hrb.out⟩⟩
  rw [hgd] at hR'
  have hgd' := Hd.mk hgd
  clear hgd
  generalize m.funcs[k.toNat] = f at *
  have har := fun W (hW : Below w.heap.size w W) => c_areArgs _ _ f.params args W (hrf.out.mv hW) (ha'.out.mv hW)
  obtain ⟨hk1, hk2⟩ := hk0
  go_wp2_with fail
  refine (har _ hb0'.out).mono ?_; rintro e w2 ⟨rfl, hb2⟩
  have hB2 := Hd.mk (hb0'.out.then hb2)
  have hb2' := Hd.mk hb2
  have hz2 := hb2.size
  clear q0 q1 q2 q3 q4 fr hb2
  have m2 := (bat hb2'.out w.heap.size (by omega) 0).trans hmb'.out
  have n0 := (bat hb2'.out eb hew _).trans g0
  have n1 := (bat hb2'.out eb hew _).trans g1
  have n2 := (bat hb2'.out eb hew _).trans g2
  obtain ⟨cr, fr⟩ := row_facts ((hb2'.out.block _ hzw1).trans hrb'.out)
  have q0 := cr 0
  have q1 := cr 1
  have q2 := cr 2
  have q3 := cr 3
  have q4 := cr 4
  simp at q0 q1 q2 q3 q4
  clear cr g0 g1 g2 hmb har
  cases hq : argsOk f.params args
  · replace hR' := Hd.mk (show res6 = R by rw [← hR'.out, hq]; rfl)
    clear hq
    go_wp2
    refine bodyPost_ret (v := resV res6 (.slice none 0 0)) (by simp [results, Tryz.results45, go_sem, resV, res6, q0, q1, q2, q3, q4]) rfl ⟨_, by rw [← hR'.out], by rw [← hR'.out]; exact ownI_nil _ _, ?_⟩
    repeat (refine Below.setCell ?_ (by first | (simp; done) | (simp; omega)) _)
    exact hB2.out
  rw [hq] at hR'
  simp only [Bool.true_and] at hR'
  have hargs := Hd.mk hq
  clear hq
  by_cases h32 : mem.size = 32
  rotate_left
  · have d : ((mem.size : Int) != 32) = true := by simp; omega
    have d2 : (mem.size == 32) = false := by simpa using h32
    replace hR' := Hd.mk (show res6 = R by rw [← hR'.out, d2]; rfl)
    go_wp2
    refine bodyPost_ret (v := resV res6 (.slice none 0 0)) (by simp [results, Tryz.results45, go_sem, resV, res6, q0, q1, q2, q3, q4]) rfl ⟨_, by rw [← hR'.out], by rw [← hR'.out]; exact ownI_nil _ _, ?_⟩
    repeat (refine Below.setCell ?_ (by first | (simp; done) | (simp; omega)) _)
    exact hB2.out
  have d : ((mem.size : Int) != 32) = false := by simp; omega
  have d2 : (mem.size == 32) = true := by simpa using h32
  rw [d2] at hR'
  simp only [Bool.true_and] at hR'
  clear d2
  cases hq : inR fuel 0 2000
  · rw [hq] at hwf
    replace hR' := Hd.mk (show res6 = R by rw [← hR'.out, hq]; rfl)
    clear hq
    go_wp2_with fail
    refine (hwf _).mono ?_; rintro e w3 ⟨rfl, rfl⟩
    go_wp2
    refine bodyPost_ret (v := resV res6 (.slice none 0 0)) (by simp [results, Tryz.results45, go_sem, resV, res6, q0, q1, q2, q3, q4]) rfl ⟨_, by rw [← hR'.out], by rw [← hR'.out]; exact ownI_nil _ _, ?_⟩
    repeat (refine Below.setCell ?_ (by first | (simp; done) | (simp; omega)) _)
    exact hB2.out
  rw [hq] at hR' hwf
  rw [if_pos rfl] at hR'
  have hfu : 0 ≤ fuel ∧ fuel ≤ 2000 := by unfold inR at hq; simpa using hq
  clear hq
  obtain ⟨fn, rfl⟩ : ∃ fn : Nat, fuel = fn := ⟨fuel.toNat, by omega⟩
  rw [Int.toNat_natCast] at hR'
  go_wp2_with fail
  refine (hwf _).mono ?_; rintro e w3 ⟨rfl, rfl⟩
  clear hwf
  obtain ⟨c9, W9, hcv, hby, hb9, hs9⟩ := conv_byr w2 mem
  have hby' := Hd.mk hby
  have hb9' := Hd.mk hb9
  have hs9' := Hd.mk hs9
  have hs9l : w2.heap.size < W9.heap.size := by omega
  clear hby hb9 hs9
  have hmd := Hd.mk (KM.mv hm'.out hB2.out)
  have hSI : Hd (SI (.slice (some ⟨eb, eo, none⟩) m.funcs.length cm) fn (w2.heap.size + 1) w2.heap.size (w2.heap.size + 2) 0 (rs0 mem) none 0 (W9.alloc (.cells #[.slice (some ⟨eb, eo, none⟩) m.funcs.length cm, .slice (some ⟨w2.heap.size, 0, none⟩) 32 c9, .slice none 0 0, .int .i64 fn, .int .i64 0, .int .i64 0] 103))) := ⟨⟨c9, heap_new _ _ _ _ (by rw [hs9'.out]), hby'.out.mv (Below.heap_alloc _ _ _ (by omega)), World.ownsRow_nil _ _ _ _, by omega, by omega, by simp; have := hs9'.out; omega, by omega⟩⟩
  obtain ⟨wS, hwS⟩ : ∃ wS : World, wS = W9.alloc (.cells #[.slice (some ⟨eb, eo, none⟩) m.funcs.length cm, .slice (some ⟨w2.heap.size, 0, none⟩) 32 c9, .slice none 0 0, .int .i64 fn, .int .i64 0, .int .i64 0] 103) := ⟨_, rfl⟩
  rw [← hwS] at hSI
  have hzS : wS.heap.size = w2.heap.size + 2 := by rw [hwS]; simp; have := hs9'.out; omega
  have hBS : Hd (Below w2.heap.size w2 wS) := ⟨hb9'.out.then (by rw [hwS]; exact (Below.refl _ _).al (Nat.le_refl _) _)⟩
  have hBwS := Hd.mk (hB2.out.then hBS.out)
  have hzS' := Hd.mk hzS
  have hwS' := Hd.mk hwS
  have hz9 : Hd (W9.heap.size = w2.heap.size + 1) := hs9'
  have hlen : args.length = (m.funcs.getD k.toNat func0).params.length := by rw [hgd'.out]; have := (args_rng hargs.out).1; omega
  have hvb : 0 < args.length → ∀ b, (Value.slice Av args.length cv).ownBlock = some b → b ≠ w2.heap.size + 1 := by
    intro h0 b hb
    obtain ⟨A, c, hv, -, -, -, h3⟩ := ha'.out
    obtain ⟨b', off, rfl, hlt, -⟩ := h3 h0
    injection hv with e1 e2 e3
    subst e1
    simp [Value.ownBlock] at hb
    omega
  have hrun := c_runR m (some ⟨eb, eo, none⟩) cm fn (w2.heap.size + 1) w2.heap.size (w2.heap.size + 2) w2 hmd.out (by omega) ⟨by omega, by omega, by omega⟩ hrn.out hsh'.out 6 0 (by omega) (by omega) k args (rs0 mem) none 0 _ _ wS ⟨hk1, hk2⟩ (rs0_ok mem h32 fn) (args_rng hargs.out).2 hlen hSI.out (KM.mv hKf.out hB2.out) (ha'.out.mv hBwS.out) hvb hBS.out
  have hok := Hd.mk (callR_ok hsh'.out fn 6 k args (rs0 mem) (rs0_ok mem h32 fn) (args_rng hargs.out).2)
  generalize callR m fn 6 k args (rs0 mem) = X at *
  rw [h32] at hcv
  have m9 := (bat hb9'.out w.heap.size (by omega) 0).trans m2
  have p0 := (bat hb9'.out eb (by omega) _).trans n0
  have p1 := (bat hb9'.out eb (by omega) _).trans n1
  have p2 := (bat hb9'.out eb (by omega) _).trans n2
  have l9 : w.heap.size < W9.heap.size := by omega
  have l8 : eb < W9.heap.size := by omega
  clear hwS hzS hlen hvb n0 n1 n2 q0 q1 q2 q3 q4 fr hSI hmd hs9' hfu hargs hrf hrb
  go_wp2_with fail
  rw [← hwS'.out, hz9.out]
  refine hrun.mono ?_; rintro e w5 ⟨A', c', rfl, hS5, hO5, hN5⟩
  have hB5 : Hd (Below w.heap.size w w5) := ⟨hBwS.out.trans (hO5.below (by omega) (by omega) (fun b hb => by cases hb) (by have := hzS'.out; omega))⟩
  have hS5' := Hd.mk hS5
  obtain ⟨cM, k0, k1, k2, k3, k4, k5, kf, kg, kgm, kne⟩ := hS5.cells
  have hby : ByR w5 w2.heap.size X.2.mem := by obtain ⟨cq, h1, h2, -⟩ := hS5; exact h2
  have hcv0 := conv_back w5 w2.heap.size cM X.2.mem hby hok.out.1.byt 32 hok.out.1.mem.symm
  have hcvD := conv_back w5.drew w2.heap.size cM X.2.mem hby hok.out.1.byt 32 hok.out.1.mem.symm
  obtain ⟨cr, fr⟩ := row_facts ((hO5.block (w.heap.size + 1) (by have := hzS'.out; omega) (by omega) (by omega) (by simp)).trans ((hBS.out.block _ (by omega)).trans ((hb2'.out.block _ hzw1).trans hrb'.out)))
  have q0 := cr 0
  have q1 := cr 1
  have q2 := cr 2
  have q3 := cr 3
  have q4 := cr 4
  simp at q0 q1 q2 q3 q4
  have hown : Hd (w5.ownsRow w.heap.size 2 1 (.slice A' X.2.out.length c') X.2.out.length (X.2.out.map (Value.int .i64))) := ⟨by obtain ⟨cq, h1, h2, h3, -⟩ := hS5; exact own_lower h3 (by omega)⟩
  have hlo2 : Hd (w5.ownsRow (w2.heap.size + 2) 2 1 (.slice A' X.2.out.length c') X.2.out.length (X.2.out.map (Value.int .i64)) ∧ w.heap.size + 1 < w2.heap.size + 2) := ⟨by obtain ⟨cq, h1, h2, h3, -⟩ := hS5; exact ⟨h3, by omega⟩⟩
  clear hrun hS5 hO5 hN5 hby cr kf k0 k3 k5 p0 p1 p2 m9 hcv
  go_wp2
  go_still_tail 16, (by kernel_rfl)
  change wpList _ _ _ _ _ w5.drew
  go_wp2
  refine bodyPost_ret (v := resV (runRes X) (.slice A' X.2.out.length c')) (by simp [results, Tryz.results45, go_sem, resV, runRes, q0, q1, q2, q3, q4]) rfl ⟨_, by rw [← hR'.out], ?_, ?_⟩
  · rw [← hR'.out]
    refine own_lower (base := w2.heap.size + 2) ?_ (by have := hlo2.out.2; omega)
    repeat (refine own_far ?_ (by have := hlo2.out.2; omega))
    exact hlo2.out.1
  · apply Below.drew
    repeat (refine Below.setCell ?_ (by first | (simp; done) | (simp; omega)) _)
    exact hB5.out
end Go.Proofs.YtkcgejbnhpccdaaGreat
