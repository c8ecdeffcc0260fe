import Derived.Test.YtkcgejbnhpccdaaGreatT45
import Derived.Test.YtkcgejbnhpccdaaGreatT46
set_option linter.unusedSimpArgs false
set_option linter.unusedVariables false
namespace Go.Proofs.YtkcgejbnhpccdaaGreat
open Go.RowKit
theorem blocksR_zero (call : Callee) (f : XFunc) (fuel : Nat) : ∀ (k : Nat) (b : Int) (vals : List Int) (s : RS), (blocksR call f fuel k b vals s).1.2 ≠ 0 → (blocksR call f fuel k b vals s).1.1 = 0
  | 0, _, _, _, _ => rfl
  | k + 1, b, vals, s, h => by
    unfold blocksR at h ⊢
    simp only at h ⊢
    split at h
    · rename_i h1
      rw [if_pos h1]
      split at h
      · rename_i h2; rw [if_pos h2]
      · rename_i h2
        rw [if_neg h2]
        split at h
        · rename_i h3; rw [if_pos h3]
        · rename_i h3
          rw [if_neg h3]
          split at h
          · exact absurd rfl h
          · rename_i h4; rw [if_neg h4]; exact blocksR_zero call f fuel k _ _ _ h
    · rename_i h1; rw [if_neg h1]
theorem callR_zero (m : XMod) (fuel d : Nat) (k : Int) (args : List Int) (s : RS) (h : (callR m fuel d k args s).1.2 ≠ 0) : (callR m fuel d k args s).1.1 = 0 := by
  cases d with
  | zero => rfl
  | succ d => unfold callR at h ⊢; exact blocksR_zero _ _ _ _ _ _ _ h
theorem own_ne {W : World} {lo b j e sz n : Nat} {v u : Value} {cs : List Value} (h : W.ownsRow lo e sz v n cs) (hl : ∀ k, v.ownBlock = some k → k ≠ b) : (W.setCell ⟨b, j, none⟩ u).ownsRow lo e sz v n cs := own_off2 h (Off.self u) hl
set_option maxRecDepth 20000 in
set_option maxHeartbeats 8000000 in
theorem s_l7Run (m : XMod) (cs : List Value) (k : Int) (va : Value) (args : List Int) (mem : ByteArray) (fn : Nat) (w : World) (hm : KMod lm w m cs) (hok : modOk m = true) (ha : RI lm w va args) (h32 : mem.size = 32) (hfu : fn ≤ 2000) (hk : 0 ≤ k ∧ k < m.funcs.length) (hargs : argsOk (m.funcs.getD k.toNat func0).params args = true) :
    Calls Tryz.prog 49 #[.agg cs.toArray, .int .i64 k, va, .string mem, .int .i64 fn] w (RetRes (runRes (callR m fn 6 k args (rs0 mem))) w) := by
  have hm' := Hd.mk hm
  obtain ⟨hsh, hck⟩ := modOk_parts hok
  have hrn := Hd.mk (modOk_rn hok)
  have hen := Hd.mk (fun f hf => (checkF_parts (hck f hf)).1)
  have hsh' := Hd.mk hsh
  obtain ⟨vm, rfl, hrm⟩ := hm
  obtain ⟨Am, cm, rfl, hcap, hlm, hm0⟩ := hrm.sm
  have ha' := Hd.mk ha
  obtain ⟨Av, cv, rfl, -, hlv, -⟩ := ha.sm
  clear hrm hsh hck hok ha
  have hbl := fun o => (Below.refl w.heap.size w).al (Nat.le_refl _) o
  obtain ⟨W0, hW0⟩ : ∃ W0 : World, W0 = (w.alloc (.cells #[.slice Am m.funcs.length cm] 38)).alloc (.cells #[.int .i64 0, .int .i64 0, .slice none 0 0, .string ⟨#[]⟩, .int .i64 0] 40) := ⟨_, rfl⟩
  have hz0 : W0.heap.size = w.heap.size + 2 := by rw [hW0]; simp
  have hb0 : Below w.heap.size w W0 := by rw [hW0]; exact (hbl _).al (by first | (simp; done) | (simp; omega)) _
  have hmb : W0.cell? ⟨w.heap.size, 0, none⟩ = some (.slice Am m.funcs.length cm) := by rw [hW0]; simp
  have hrb' : Hd (W0.heap[w.heap.size + 1]? = some (.cells #[.int .i64 0, .int .i64 0, .slice none 0 0, .string ⟨#[]⟩, .int .i64 0] 40 (0, 0))) := ⟨by rw [hW0]; exact heap_new _ _ _ _ (by simp)⟩
  have hb0' := Hd.mk hb0
  have hW0' := Hd.mk hW0
  have hmb' := Hd.mk hmb
  have hz0' := Hd.mk hz0
  have hzw : w.heap.size < W0.heap.size := by omega
  have hzw1 : w.heap.size + 1 < W0.heap.size := by omega
  obtain ⟨c9', W9, hcv, hby, hb9, hs9⟩ := conv_byr W0 mem
  rw [h32] at hcv
  rw [hW0] at hcv
  have hby' := Hd.mk hby
  have hb9' := Hd.mk hb9
  have hs9' := Hd.mk hs9
  have hs9l : W0.heap.size < W9.heap.size := by omega
  clear hby hb9 hs9 hW0 hb0 hbl hz0
  have hmd := Hd.mk (KM.mv hm'.out hb0'.out)
  obtain ⟨wS, hwS⟩ : ∃ wS : World, wS = W9.alloc (.cells #[.slice Am m.funcs.length cm, .slice (some ⟨W0.heap.size, 0, none⟩) 32 c9', .slice none 0 0, .int .i64 fn, .int .i64 0, .int .i64 0] 109) := ⟨_, rfl⟩
  have hSX : Hd (SX (.slice Am m.funcs.length cm) fn (W0.heap.size + 1) W0.heap.size (W0.heap.size + 2) 0 (rs0 mem) none 0 wS) := ⟨by rw [hwS]; exact ⟨c9', heap_new _ _ _ _ (by rw [hs9'.out]), hby'.out.mv (Below.heap_alloc _ _ _ (by omega)), World.ownsRow_nil _ _ _ _, by omega, by omega, by simp; have := hs9'.out; omega, by omega⟩⟩
  have hzS : wS.heap.size = W0.heap.size + 2 := by rw [hwS]; simp; have := hs9'.out; omega
  have hBS : Hd (Below W0.heap.size W0 wS) := ⟨hb9'.out.then (by rw [hwS]; exact (Below.refl _ _).al (Nat.le_refl _) _)⟩
  have hBwS := Hd.mk (hb0'.out.then hBS.out)
  have hzS' := Hd.mk hzS
  have hwS' := Hd.mk hwS
  have hlen : args.length = (m.funcs.getD k.toNat func0).params.length := (args_rng hargs).1.symm
  have hrun := s_call m Am cm fn (W0.heap.size + 1) W0.heap.size (W0.heap.size + 2) W0 hmd.out hfu ⟨by omega, by omega, by omega⟩ hrn.out hen.out hsh'.out 6 1 (by omega) (by omega) k args (rs0 mem) none 0 (.slice Av args.length cv) wS hk (rs0_ok mem h32 fn) (args_rng hargs).2 hlen hSX.out (ha'.out.mv hBwS.out) hBS.out
  have hok := Hd.mk (callR_ok hsh'.out fn 6 k args (rs0 mem) (rs0_ok mem h32 fn) (args_rng hargs).2)
  have hzz := Hd.mk (callR_zero m fn 6 k args (rs0 mem))
  generalize callR m fn 6 k args (rs0 mem) = X at *
  have hz9 : Hd (W9.heap.size = W0.heap.size + 1) := hs9'
  have hzr : Hd (W0.heap.size = w.heap.size + 2) := hz0'
  have hzr1 : w.heap.size + 1 + 1 = W0.heap.size := by have := hz0'.out; omega
  clear hwS hzS hlen hSX hmd hs9' hargs hm0
  go_enter Tryz.func49, Tryz.ntmps49
  go_wp2_with fail
  rw [← hwS'.out, hz9.out]
  refine hrun.mono ?_; rintro e w5 ⟨A', c', val, rfl, hval, hS5, hO5, hN5⟩
  have hB5 : Hd (Below w.heap.size w w5) := ⟨hBwS.out.trans (hO5.below (by omega) (by omega) (fun b hb => by cases hb) (by have := hzS'.out; omega))⟩
  obtain ⟨cM, k0, k1, k2, k3, k4, k5, kf, kg, kgm, kne⟩ := hS5.cells
  have hby5 : ByR w5 W0.heap.size X.2.mem := by obtain ⟨cq, h1, h2, -⟩ := hS5; exact h2
  have hcvD := conv_back w5.drew W0.heap.size cM X.2.mem hby5 hok.out.1.byt 32 hok.out.1.mem.symm
  have hcvA := fun o => conv_back (w5.alloc o).drew W0.heap.size cM X.2.mem (hby5.mv (W' := (w5.alloc o).drew) (Below.heap_alloc w5 o _ kgm)) hok.out.1.byt 32 hok.out.1.mem.symm
  have hrow5 : Hd (w5.heap[w.heap.size + 1]? = some (.cells #[.int .i64 0, .int .i64 0, .slice none 0 0, .string ⟨#[]⟩, .int .i64 0] 40 (0, 0))) := ⟨(hO5.block (w.heap.size + 1) (by have := hzS'.out; omega) (by omega) (by omega) (by simp)).trans ((hBS.out.block _ (by omega)).trans hrb'.out)⟩
  have hlo2 : Hd (w5.ownsRow (W0.heap.size + 2) 2 1 (.slice A' X.2.out.length c') X.2.out.length (X.2.out.map (Value.int .i64)) ∧ w.heap.size + 1 < W0.heap.size + 2) := ⟨by obtain ⟨cq, h1, h2, h3, -⟩ := hS5; exact ⟨h3, by omega⟩⟩
  have hval' := Hd.mk hval
  have hS5' := Hd.mk hS5
  have hdz : w5.drew.heap.size = w5.heap.size := rfl
  obtain ⟨wq, hwq⟩ : ∃ wq : World, wq = (w5.alloc (.cells #[.int .i64 X.1.2, .int .i64 0, .slice A' X.2.out.length c', .string (toBytes X.2.mem), .int .i64 X.2.steps] 40)).drew := ⟨_, rfl⟩
  have hwq' := Hd.mk hwq
  clear hrun hS5 hO5 hN5 hby5 kf k0 k3 hcv hval hwq hzr1
  go_wp2
  refine wp_via (fun a a' W => (∃ (u24 u25 u26 u27 u28 u29 u30 u31 u32 u33 u34 u35 u36 u37 u38 u39 u40 u41 : Value), a' = (((((((((((((((((((a.put (some 24) u24).put (some 25) u25).put (some 26) u26).put (some 27) u27).put (some 28) u28).put (some 29) u29).put (some 30) u30).put (some 31) u31).put (some 32) u32).put (some 33) u33).put (some 34) u34).put (some 35) u35).put (some 36) u36).put (some 37) u37).put (some 38) u38).put (some 39) u39).put (some 40) u40).put (some 41) u41).put (some 13) (.pointer (some ⟨w5.heap.size, 0, none⟩)))) ∧ W = wq) ?_ ?_
  · rw [hwq'.out]
    clear hlo2 hrow5 hval' hzz hok hB5 hBwS hBS hS5' hb9' hby' hm' ha' hrn hen hsh'
    go_region
    all_goals
      unfold Exit.then
      go_simp
    all_goals exact ⟨_, _, _, _, _, _, _, _, _, _, _, _, _, _, _, _, _, _, rfl, rfl, rfl, rfl, rfl, rfl, rfl, rfl, rfl, rfl, rfl, rfl, rfl, rfl, rfl, rfl, rfl, rfl, rfl⟩
  rintro a' W ⟨⟨u24, u25, u26, u27, u28, u29, u30, u31, u32, u33, u34, u35, u36, u37, u38, u39, u40, u41, rfl⟩, hWq⟩
  rw [hWq]
  clear hWq
  simp only [Act.put, List.setIfInBounds_toArray, List.set_cons_zero, List.set_cons_succ]
  have hBq : Hd (Below w5.heap.size w5 wq) := ⟨by rw [hwq'.out]; exact Below.drew ((Below.refl w5.heap.size w5).al (Nat.le_refl _) _)⟩
  have hnb : wq.heap[w5.heap.size]? = some (.cells #[.int .i64 X.1.2, .int .i64 0, .slice A' X.2.out.length c', .string (toBytes X.2.mem), .int .i64 X.2.steps] 40 (0, 0)) := by rw [hwq'.out]; exact heap_new w5 _ _ _ rfl
  obtain ⟨nc, nf⟩ := row_facts hnb
  have n0 := nc 0
  have n1 := nc 1
  have n2 := nc 2
  have n3 := nc 3
  have n4 := nc 4
  have nf1 := nf 1
  simp at n0 n1 n2 n3 n4
  have hzq : w5.heap.size < wq.heap.size := by rw [hwq'.out]; exact (by intro W o; simp : ∀ (W : World) o, W.heap.size < (W.alloc o).drew.heap.size) w5 _
  have hz5 : w.heap.size + 1 < w5.heap.size := by have := (Array.getElem?_eq_some_iff.1 hrow5.out).1; exact this
  have m5 := (bat hBq.out (W0.heap.size + 1) kg 5).trans k5
  obtain ⟨cr, fr⟩ := row_facts ((hBq.out.block _ hz5).trans hrow5.out)
  have q0 := cr 0
  have q1 := cr 1
  have q2 := cr 2
  have q3 := cr 3
  have q4 := cr 4
  simp at q0 q1 q2 q3 q4
  have hownq := Hd.mk (own_mv hlo2.out.1 hBq.out)
  have hloq : Hd (w.heap.size + 1 < W0.heap.size + 2 ∧ W0.heap.size + 2 ≤ w5.heap.size) := ⟨hlo2.out.2, by omega⟩
  have hB6 := Hd.mk (hB5.out.then hBq.out)
  have hkb := Hd.mk (fun k (hk : (Value.slice A' X.2.out.length c').ownBlock = some k) => (show k ≠ w5.heap.size from by have := own_blk_lt hlo2.out.1 k hk; omega))
  have hne5 : ¬ w5.heap.size = w.heap.size + 1 := by omega
  have hne6 : ¬ w.heap.size + 1 = w5.heap.size := by omega
  clear nc nf hnb cr hwq' hcvD hcvA k1 k2 k4 k5 hdz
  by_cases h0 : X.1.2 = 0
  · have hv := hval'.out h0
    subst hv
    rw [h0] at n0 m5
    have h0' := Hd.mk h0
    clear h0
    go_wp2
    refine bodyPost_ret (v := resV (runRes X) (.slice A' X.2.out.length c')) (by simp [results, Tryz.results49, go_sem, resV, runRes, h0'.out, q0, q1, q2, q3, q4]) rfl ⟨_, rfl, ?_, ?_⟩
    · refine own_lower (base := W0.heap.size + 2) ?_ (by have := hloq.out.1; omega)
      repeat (first | refine own_far ?_ (by have := hloq.out.1; omega) | refine own_ne ?_ hkb.out)
      exact hownq.out
    · repeat (refine Below.setCell ?_ (by first | (simp; done) | (simp; omega) | (show w.heap.size ≤ w5.heap.size; omega)) _)
      exact hB6.out
  · have hz := hzz.out h0
    have d0 := beqF h0
    have d1 := bneT h0
    clear h0
    go_wp2
    refine bodyPost_ret (v := resV (runRes X) (.slice A' X.2.out.length c')) (by simp [results, Tryz.results49, go_sem, resV, runRes, hz, q0, q1, q2, q3, q4]) rfl ⟨_, rfl, ?_, ?_⟩
    · refine own_lower (base := W0.heap.size + 2) ?_ (by have := hloq.out.1; omega)
      repeat (refine own_far ?_ (by have := hloq.out.1; omega))
      exact hownq.out
    · repeat (refine Below.setCell ?_ (by first | (simp; done) | (simp; omega) | (show w.heap.size ≤ w5.heap.size; omega)) _)
      exact hB6.out
end Go.Proofs.YtkcgejbnhpccdaaGreat
