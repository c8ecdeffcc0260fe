/- The contract of the reference's l2Inst. No conditions. The contract of the reference's l2Func. No conditions. -/
import Derived.Test.YtkcgejbnhpccdaaGreatJ20
import Derived.Test.YtkcgejbnhpccdaaGreatJ21
import Derived.Test.YtkcgejbnhpccdaaGreatJ04
import Derived.Test.YtkcgejbnhpccdaaGreatJ05
import Derived.Test.YtkcgejbnhpccdaaGreatJ16
import Derived.Test.YtkcgejbnhpccdaaGreatJ18
import Derived.Deep.RegionHeld3
set_option linter.unusedSimpArgs false
set_option linter.unusedVariables false
namespace Go.Proofs.YtkcgejbnhpccdaaGreat
open Go.RowKit
theorem blocksR_zero (call : Callee) (f : XFunc) (fuel : Nat) : ∀ (k : Nat) (b : Int) (vals : List Int) (s : RS), (blocksR call f fuel k b vals s).1.2 ≠ 0 → (blocksR call f fuel k b vals s).1.1 = 0
  | 0, _, _, _, _ => rfl
  | k + 1, b, vals, s, h => by
    unfold blocksR at h ⊢
    simp only at h ⊢
    split at h
    · rename_i h1
      rw [if_pos h1]
      split at h
      · rename_i h2; rw [if_pos h2]
      · rename_i h2
        rw [if_neg h2]
        split at h
        · rename_i h3; rw [if_pos h3]
        · rename_i h3
          rw [if_neg h3]
          split at h
          · exact absurd rfl h
          · rename_i h4; rw [if_neg h4]; exact blocksR_zero call f fuel k _ _ _ h
    · rename_i h1; rw [if_neg h1]
theorem callR_zero (m : XMod) (fuel d : Nat) (k : Int) (args : List Int) (s : RS) (h : (callR m fuel d k args s).1.2 ≠ 0) : (callR m fuel d k args s).1.1 = 0 := by
  cases d with
  | zero => rfl
  | succ d => unfold callR at h ⊢; exact blocksR_zero _ _ _ _ _ _ _ h
theorem own_ne {W : World} {lo b j e sz n : Nat} {v u : Value} {cs : List Value} (h : W.ownsRow lo e sz v n cs) (hl : ∀ k, v.ownBlock = some k → k ≠ b) : (W.setCell ⟨b, j, none⟩ u).ownsRow lo e sz v n cs := own_off2 h (Off.self u) hl
set_option maxRecDepth 20000 in
set_option maxHeartbeats 8000000 in
theorem s_l7Run (m : XMod) (cs : List Value) (k : Int) (va : Value) (args : List Int) (mem : ByteArray) (fn : Nat) (w : World) (hm : KMod lm w m cs) (hok : modOk m = true) (ha : RI lm w va args) (h32 : mem.size = 32) (hfu : fn ≤ 2000) (hk : 0 ≤ k ∧ k < m.funcs.length) (hargs : argsOk (m.funcs.getD k.toNat func0).params args = true) :
    Calls Tryz.prog 49 #[.agg cs.toArray, .int .i64 k, va, .string mem, .int .i64 fn] w (RetRes (runRes (callR m fn 6 k args (rs0 mem))) w) := by
  have hm' := Hd.mk hm
  obtain ⟨hsh, hck⟩ := modOk_parts hok
  have hrn := Hd.mk (modOk_rn hok)
  have hen := Hd.mk (fun f hf => (checkF_parts (hck f hf)).1)
  have hsh' := Hd.mk hsh
  obtain ⟨vm, rfl, hrm⟩ := hm
  obtain ⟨Am, cm, rfl, hcap, hlm, hm0⟩ := hrm.sm
  have ha' := Hd.mk ha
  obtain ⟨Av, cv, rfl, -, hlv, -⟩ := ha.sm
  clear hrm hsh hck hok ha
  have hbl := fun o => (Below.refl w.heap.size w).al (Nat.le_refl _) o
  obtain ⟨W0, hW0⟩ : ∃ W0 : World, W0 = (w.alloc (.cells #[.slice Am m.funcs.length cm] 38)).alloc (.cells #[.int .i64 0, .int .i64 0, .slice none 0 0, .string ⟨#[]⟩, .int .i64 0] 40) := ⟨_, rfl⟩
  have hz0 : W0.heap.size = w.heap.size + 2 := by rw [hW0]; simp
  have hb0 : Below w.heap.size w W0 := by rw [hW0]; exact (hbl _).al (by first | (simp; done) | (simp; omega)) _
  have hmb : W0.cell? ⟨w.heap.size, 0, none⟩ = some (.slice Am m.funcs.length cm) := by rw [hW0]; simp
  have hrb' : Hd (W0.heap[w.heap.size + 1]? = some (.cells #[.int .i64 0, .int .i64 0, .slice none 0 0, .string ⟨#[]⟩, .int .i64 0] 40 (0, 0))) := ⟨by rw [hW0]; exact heap_new _ _ _ _ (by simp)⟩
  have hb0' := Hd.mk hb0
  have hW0' := Hd.mk hW0
  have hmb' := Hd.mk hmb
  have hz0' := Hd.mk hz0
  have hzw : w.heap.size < W0.heap.size := by omega
  have hzw1 : w.heap.size + 1 < W0.heap.size := by omega
  obtain ⟨c9', W9, hcv, hby, hb9, hs9⟩ := conv_byr W0 mem
  rw [h32] at hcv
  rw [hW0] at hcv
  have hby' := Hd.mk hby
  have hb9' := Hd.mk hb9
  have hs9' := Hd.mk hs9
  have hs9l : W0.heap.size < W9.heap.size := by omega
  clear hby hb9 hs9 hW0 hb0 hbl hz0
  have hmd := Hd.mk (KM.mv hm'.out hb0'.out)
  obtain ⟨wS, hwS⟩ : ∃ wS : World, wS = W9.alloc (.cells #[.slice Am m.funcs.length cm, .slice (some ⟨W0.heap.size, 0, none⟩) 32 c9', .slice none 0 0, .int .i64 fn, .int .i64 0, .int .i64 0] 109) := ⟨_, rfl⟩
  have hSX : Hd (SX (.slice Am m.funcs.length cm) fn (W0.heap.size + 1) W0.heap.size (W0.heap.size + 2) 0 (rs0 mem) none 0 wS) := ⟨by rw [hwS]; exact ⟨c9', heap_new _ _ _ _ (by rw [hs9'.out]), hby'.out.mv (Below.heap_alloc _ _ _ (by omega)), World.ownsRow_nil _ _ _ _, by omega, by omega, by simp; have := hs9'.out; omega, by omega⟩⟩
  have hzS : wS.heap.size = W0.heap.size + 2 := by rw [hwS]; simp; have := hs9'.out; omega
  have hBS : Hd (Below W0.heap.size W0 wS) := ⟨hb9'.out.then (by rw [hwS]; exact (Below.refl _ _).al (Nat.le_refl _) _)⟩
  have hBwS := Hd.mk (hb0'.out.then hBS.out)
  have hzS' := Hd.mk hzS
  have hwS' := Hd.mk hwS
  have hlen : args.length = (m.funcs.getD k.toNat func0).params.length := (args_rng hargs).1.symm
  have hrun := s_call m Am cm fn (W0.heap.size + 1) W0.heap.size (W0.heap.size + 2) W0 hmd.out hfu ⟨by omega, by omega, by omega⟩ hrn.out hen.out hsh'.out 6 1 (by omega) (by omega) k args (rs0 mem) none 0 (.slice Av args.length cv) wS hk (rs0_ok mem h32 fn) (args_rng hargs).2 hlen hSX.out (ha'.out.mv hBwS.out) hBS.out
  have hok := Hd.mk (callR_ok hsh'.out fn 6 k args (rs0 mem) (rs0_ok mem h32 fn) (args_rng hargs).2)
  have hzz := Hd.mk (callR_zero m fn 6 k args (rs0 mem))
  generalize callR m fn 6 k args (rs0 mem) = X at *
  have hz9 : Hd (W9.heap.size = W0.heap.size + 1) := hs9'
  have hzr : Hd (W0.heap.size = w.heap.size + 2) := hz0'
  have hzr1 : w.heap.size + 1 + 1 = W0.heap.size := by have := hz0'.out; omega
  clear hwS hzS hlen hSX hmd hs9' hargs hm0
  go_enter Tryz.func49, Tryz.ntmps49
  go_wp2_with fail
  rw [← hwS'.out, hz9.out]
  refine hrun.mono ?_; rintro e w5 ⟨A', c', val, rfl, hval, hS5, hO5, hN5⟩
  have hB5 : Hd (Below w.heap.size w w5) := ⟨hBwS.out.trans (hO5.below (by omega) (by omega) (fun b hb => by cases hb) (by have := hzS'.out; omega))⟩
  obtain ⟨cM, k0, k1, k2, k3, k4, k5, kf, kg, kgm, kne⟩ := hS5.cells
  have hby5 : ByR w5 W0.heap.size X.2.mem := by obtain ⟨cq, h1, h2, -⟩ := hS5; exact h2
  have hcvD := conv_back w5.drew W0.heap.size cM X.2.mem hby5 hok.out.1.byt 32 hok.out.1.mem.symm
  have hcvA := fun o => conv_back (w5.alloc o).drew W0.heap.size cM X.2.mem (hby5.mv (W' := (w5.alloc o).drew) (Below.heap_alloc w5 o _ kgm)) hok.out.1.byt 32 hok.out.1.mem.symm
  have hrow5 : Hd (w5.heap[w.heap.size + 1]? = some (.cells #[.int .i64 0, .int .i64 0, .slice none 0 0, .string ⟨#[]⟩, .int .i64 0] 40 (0, 0))) := ⟨(hO5.block (w.heap.size + 1) (by have := hzS'.out; omega) (by omega) (by omega) (by simp)).trans ((hBS.out.block _ (by omega)).trans hrb'.out)⟩
  have hlo2 : Hd (w5.ownsRow (W0.heap.size + 2) 2 1 (.slice A' X.2.out.length c') X.2.out.length (X.2.out.map (Value.int .i64)) ∧ w.heap.size + 1 < W0.heap.size + 2) := ⟨by obtain ⟨cq, h1, h2, h3, -⟩ := hS5; exact ⟨h3, by omega⟩⟩
  have hval' := Hd.mk hval
  have hS5' := Hd.mk hS5
  have hdz : w5.drew.heap.size = w5.heap.size := rfl
  obtain ⟨wq, hwq⟩ : ∃ wq : World, wq = (w5.alloc (.cells #[.int .i64 X.1.2, .int .i64 0, .slice A' X.2.out.length c', .string (toBytes X.2.mem), .int .i64 X.2.steps] 40)).drew := ⟨_, rfl⟩
  have hwq' := Hd.mk hwq
  clear hrun hS5 hO5 hN5 hby5 kf k0 k3 hcv hval hwq hzr1
  go_wp2
  refine wp_via (fun a a' W => (∃ (u24 u25 u26 u27 u28 u29 u30 u31 u32 u33 u34 u35 u36 u37 u38 u39 u40 u41 : Value), a' = (((((((((((((((((((a.put (some 24) u24).put (some 25) u25).put (some 26) u26).put (some 27) u27).put (some 28) u28).put (some 29) u29).put (some 30) u30).put (some 31) u31).put (some 32) u32).put (some 33) u33).put (some 34) u34).put (some 35) u35).put (some 36) u36).put (some 37) u37).put (some 38) u38).put (some 39) u39).put (some 40) u40).put (some 41) u41).put (some 13) (.pointer (some ⟨w5.heap.size, 0, none⟩)))) ∧ W = wq) ?_ ?_
  · rw [hwq'.out]
    clear hlo2 hrow5 hval' hzz hok hB5 hBwS hBS hS5' hb9' hby' hm' ha' hrn hen hsh'
    go_region
    all_goals
      unfold Exit.then
      go_simp
    all_goals exact ⟨_, _, _, _, _, _, _, _, _, _, _, _, _, _, _, _, _, _, rfl, rfl, rfl, rfl, rfl, rfl, rfl, rfl, rfl, rfl, rfl, rfl, rfl, rfl, rfl, rfl, rfl, rfl, rfl⟩
  rintro a' W ⟨⟨u24, u25, u26, u27, u28, u29, u30, u31, u32, u33, u34, u35, u36, u37, u38, u39, u40, u41, rfl⟩, hWq⟩
  rw [hWq]
  clear hWq
  simp only [Act.put, List.setIfInBounds_toArray, List.set_cons_zero, List.set_cons_succ]
  have hBq : Hd (Below w5.heap.size w5 wq) := ⟨by rw [hwq'.out]; exact Below.drew ((Below.refl w5.heap.size w5).al (Nat.le_refl _) _)⟩
  have hnb : wq.heap[w5.heap.size]? = some (.cells #[.int .i64 X.1.2, .int .i64 0, .slice A' X.2.out.length c', .string (toBytes X.2.mem), .int .i64 X.2.steps] 40 (0, 0)) := by rw [hwq'.out]; exact heap_new w5 _ _ _ rfl
  obtain ⟨nc, nf⟩ := row_facts hnb
  have n0 := nc 0
  have n1 := nc 1
  have n2 := nc 2
  have n3 := nc 3
  have n4 := nc 4
  have nf1 := nf 1
  simp at n0 n1 n2 n3 n4
  have hzq : w5.heap.size < wq.heap.size := by rw [hwq'.out]; exact (by intro W o; simp : ∀ (W : World) o, W.heap.size < (W.alloc o).drew.heap.size) w5 _
  have hz5 : w.heap.size + 1 < w5.heap.size := by have := (Array.getElem?_eq_some_iff.1 hrow5.out).1; exact this
  have m5 := (bat hBq.out (W0.heap.size + 1) kg 5).trans k5
  obtain ⟨cr, fr⟩ := row_facts ((hBq.out.block _ hz5).trans hrow5.out)
  have q0 := cr 0
  have q1 := cr 1
  have q2 := cr 2
  have q3 := cr 3
  have q4 := cr 4
  simp at q0 q1 q2 q3 q4
  have hownq := Hd.mk (own_mv hlo2.out.1 hBq.out)
  have hloq : Hd (w.heap.size + 1 < W0.heap.size + 2 ∧ W0.heap.size + 2 ≤ w5.heap.size) := ⟨hlo2.out.2, by omega⟩
  have hB6 := Hd.mk (hB5.out.then hBq.out)
  have hkb := Hd.mk (fun k (hk : (Value.slice A' X.2.out.length c').ownBlock = some k) => (show k ≠ w5.heap.size from by have := own_blk_lt hlo2.out.1 k hk; omega))
  have hne5 : ¬ w5.heap.size = w.heap.size + 1 := by omega
  have hne6 : ¬ w.heap.size + 1 = w5.heap.size := by omega
  clear nc nf hnb cr hwq' hcvD hcvA k1 k2 k4 k5 hdz
  by_cases h0 : X.1.2 = 0
  · have hv := hval'.out h0
    subst hv
    rw [h0] at n0 m5
    have h0' := Hd.mk h0
    clear h0
    go_wp2
    refine bodyPost_ret (v := resV (runRes X) (.slice A' X.2.out.length c')) (by simp [results, Tryz.results49, go_sem, resV, runRes, h0'.out, q0, q1, q2, q3, q4]) rfl ⟨_, rfl, ?_, ?_⟩
    · refine own_lower (base := W0.heap.size + 2) ?_ (by have := hloq.out.1; omega)
      repeat (first | refine own_far ?_ (by have := hloq.out.1; omega) | refine own_ne ?_ hkb.out)
      exact hownq.out
    · repeat (refine Below.setCell ?_ (by first | (simp; done) | (simp; omega) | (show w.heap.size ≤ w5.heap.size; omega)) _)
      exact hB6.out
  · have hz := hzz.out h0
    have d0 := beqF h0
    have d1 := bneT h0
    clear h0
    go_wp2
    refine bodyPost_ret (v := resV (runRes X) (.slice A' X.2.out.length c')) (by simp [results, Tryz.results49, go_sem, resV, runRes, hz, q0, q1, q2, q3, q4]) rfl ⟨_, rfl, ?_, ?_⟩
    · refine own_lower (base := W0.heap.size + 2) ?_ (by have := hloq.out.1; omega)
      repeat (refine own_far ?_ (by have := hloq.out.1; omega))
      exact hownq.out
    · repeat (refine Below.setCell ?_ (by first | (simp; done) | (simp; omega) | (show w.heap.size ≤ w5.heap.size; omega)) _)
      exact hB6.out
end Go.Proofs.YtkcgejbnhpccdaaGreat
set_option linter.unusedSimpArgs false
set_option linter.unusedVariables false
namespace Go.Proofs.YtkcgejbnhpccdaaGreat
open Go.RowKit
theorem ops_cases (i : XInst) : inR i.op 1 27 = true → i.op ≠ 26 → (i.op = 21 ∧ (opsOf i).length = 0) ∨ (i.op = 24 ∧ (opsOf i).length = 2) ∨ (i.op = 25 ∧ (opsOf i).length = 1) ∨ (i.op = 23 ∧ (opsOf i).length = 1) ∨
    (i.op ≠ 21 ∧ i.op ≠ 23 ∧ i.op ≠ 24 ∧ i.op ≠ 25 ∧ ((opsOf i).length = 1 ∨ (opsOf i).length = 2 ∨ (opsOf i).length = 3)) := by
  intro h h26
  simp only [inR, Bool.and_eq_true, decide_eq_true_eq] at h
  by_cases h1 : i.op = 21
  · simp [opsOf, bin, cst, inR, h1]
  by_cases h2 : i.op = 23
  · simp [opsOf, bin, cst, inR, h2]
  by_cases h3 : i.op = 24
  · simp [opsOf, bin, cst, inR, h3]
  by_cases h4 : i.op = 25
  · simp [opsOf, bin, cst, inR, h4]
  · right; right; right; right
    refine ⟨h1, h2, h3, h4, ?_⟩
    unfold opsOf
    repeat' split
    all_goals first | (simp; done) | (simp_all [bin, cst, inR]; done) | (simp_all [bin, cst, inR]; omega)
theorem widthOk_ne (w : Int) (h : widthOk w = true) : (w == 0) = false := by
  simp only [widthOk, Bool.or_eq_true, beq_iff_eq] at h
  simp; omega
set_option maxHeartbeats 8000000 in
set_option maxRecDepth 100000 in
theorem s_l2Inst (i : XInst) (v : Value) (ids funcs : Int) (w : World) (hv : RI lm w v i.args) (hi : 0 ≤ ids) (hi2 : ids ≤ 1048576) (hf : 0 ≤ funcs) (hf2 : funcs ≤ 1048576) :
    Calls Tryz.prog 145 #[instV i v, .int .i64 ids, .int .i64 funcs] w (Ret (.bool (instOk ids funcs i)) w) := by
  have hops := s_l2Operands i
  obtain ⟨A, c, rfl, _, hl, hv0⟩ := hv.sm
  have hp := instOk_pre ids funcs i
  have hpre : instPre i = (inR i.op 1 27 && decide (i.args.length ≤ 4) && (i.args.isEmpty || i.op == 26)) := rfl
  have hbl := fun o => (Below.refl w.heap.size w).al (Nat.le_refl _) o
  have hlen := opsOf_len i hl
  have hcl := Hd.mk (ops_cases i)
  have hN := Hd.mk (show ownN i = if i.op == 26 then 0 else (opsOf i).length from rfl)
  have hn3 := Hd.mk (show i.op ≠ 26 → (opsOf i).length ≤ 3 from fun ho => by rcases opsOf_le i with h | ⟨_, h⟩; exact h; exact absurd h ho)
  have hW := Hd.mk (show wFits i = if i.op == 24 || i.op == 25 then i.w == 0 else if i.op == 23 then i.w == 8 else widthOk i.w from rfl)
  have hM := Hd.mk (show immFits i funcs = if i.op == 21 then isVal i.w i.imm else if i.op == 26 then inR i.imm 0 (funcs - 1) else i.imm == 0 from rfl)
  obtain ⟨op, wd, a, b, c0, imm, args⟩ := i
  simp only [instV] at *
  generalize instOk ids funcs _ = R at *
  generalize hP : instPre _ = Pr at *
  generalize ownN _ = N at *
  generalize wFits _ = WF at *
  generalize immFits _ _ = IF at *
  generalize opsOf _ = l at *
  clear hP
  cases h0 : inR op 1 27 with
  | false =>
    rw [h0] at hpre
    simp at hpre
    subst hpre
    simp at hp
    subst hp
    go_enter Tryz.func145, Tryz.ntmps145
    go_wp2_with (go_at_call 47; refine (s_l1In _ _ _ _).mono ?_; rintro e w' ⟨rfl, rfl⟩)
    go_ret
    exact ⟨rfl, hbl _⟩
  | true =>
    rw [h0] at hpre
    by_cases h2 : op ≠ 26 ∧ 0 < args.length
    · obtain ⟨h4, h3⟩ := h2
      have h5 : args.isEmpty = false := by cases args <;> simp_all
      simp [beqF h4, h5] at hpre
      subst hpre
      simp at hp
      subst hp
      have b4 := bneT h4
      clear h5
      go_enter Tryz.func145, Tryz.ntmps145
      go_wp2_with (go_at_call 47; refine (s_l1In _ _ _ _).mono ?_; rintro e w' ⟨rfl, rfl⟩)
      go_ret
      exact ⟨rfl, hbl _⟩
    · have hpre2 : Pr = decide (args.length ≤ 4) := by
        rw [hpre]
        have : args.isEmpty = true ∨ op = 26 := by
          rcases Nat.eq_zero_or_pos args.length with h | h
          · left; simpa using h
          · right; exact Decidable.byContradiction fun h' => h2 ⟨h', h⟩
        rcases this with h | h <;> simp [h]
      have hargs : op ≠ 26 → args.length = 0 := fun h => by omega
      clear hpre h2
      have hp' := Hd.mk hp
      have hpre' := Hd.mk hpre2
      have hargs' := Hd.mk hargs
      clear hp hpre2 hargs
      have h26 : op ≠ 26 ∧ args = [] ∨ op = 26 := by
        by_cases h : op = 26
        · exact .inr h
        · exact .inl ⟨h, List.eq_nil_of_length_eq_zero (hargs'.out h)⟩
      clear hargs'
      rcases h26 with ⟨h26, rfl⟩ | rfl
      · have b26 := bneT h26
        have c26 := beqF h26
        have hl3 := hn3.out h26
        have hN2 := hN.out
        rw [c26] at hN2
        simp at hN2
        subst hN2
        have hPr := hpre'.out
        simp at hPr
        subst hPr
        go_enter Tryz.func145, Tryz.ntmps145
        go_wp2_with fail
        refine (s_l1In _ _ _ _).mono ?_; rintro e w' ⟨rfl, rfl⟩
        go_wp2_with fail
        refine (hops _ _ (hv0.out.mv (hbl _))).mono ?_; rintro e w1 ⟨v', rfl, ho1, hb1⟩
        obtain ⟨A1, c1, rfl, -, -, hr1⟩ := (own_ints (L := lm) ho1 (by simp only [lm]; omega)).2.sm
        have k0 := bat hb1 w.heap.size (by simp)
        simp at k0
        have hbw := Hd.mk ((hbl _).then hb1)
        clear hb1 ho1 hops
        go_wp2
        go_loop [8] (fun s8 => ∃ k : Nat, k ≤ l.length ∧ s8 = .int .i64 k ∧ Hd ((l.take k).all (isIdB ids) = true)) (fun s8 => l.length - (intOf s8).toNat)
        case atStart => exact ⟨0, Nat.zero_le _, rfl, ⟨by simp⟩⟩
        case round =>
          obtain ⟨k, hk, rfl, hall⟩ := hrel
          by_cases hlt : k < l.length
          · obtain ⟨b1, off1, cs1, hA, hbl1, hk1, hat⟩ := hr1.out.in0 (Below.refl _ _) k hlt
            cases hA
            cases hk1
            have g0 := hat 0 _ rfl
            simp at g0
            clear hat
            have hsn := Hd.mk (all_take_snoc (isIdB ids) l k hlt)
            have hfail := fun h => Hd.mk (all_false_of (isIdB ids) l k hlt h)
            have hid : isIdB ids l[k] = inR l[k] 0 (ids - 1) := rfl
            generalize l[k] = y at *
            cases hq : inR y 0 (ids - 1) with
            | false =>
              have hp2 := hp'.out
              rw [(hfail (by rw [hid, hq])).out] at hp2
              simp at hp2
              subst hp2
              go_wp2_with (go_at_call 47; refine (s_l1In _ _ _ _).mono ?_; rintro e w' ⟨rfl, rfl⟩)
              go_ret
              exact ⟨rfl, hbw.out⟩
            | true =>
              go_wp2_with (go_at_call 47; refine (s_l1In _ _ _ _).mono ?_; rintro e w' ⟨rfl, rfl⟩)
              go_round
              case rel => exact ⟨k + 1, by omega, by go_num, ⟨by rw [hsn.out, hall.out, hid, hq]; rfl⟩⟩
              case measure => simp [intOf]; omega
          · have e : k = l.length := by omega
            subst e
            rw [List.take_length] at hall
            have hp2 := hp'.out
            rw [hall.out] at hp2
            have hR := Hd.mk hp2
            have hcls := hcl.out h0 h26
            clear hp2 hp' hn3 hN hcl
            rcases hcls with ⟨rfl, hn⟩ | ⟨rfl, hn⟩ | ⟨rfl, hn⟩ | ⟨rfl, hn⟩ | ⟨o21, o23, o24, o25, hn⟩
            · skip
              cases hwd : widthOk wd with
              | false =>
                have hwf : WF = false := by rw [hW.out]; simp [hwd]
                by_cases hw0 : wd = 0
                · subst hw0
                  have e : R = false := by rw [hR.out]; simp [hn, hwf]
                  subst e
                  go_wp2_with (first | (go_at_call 105; refine (s_WidthOk _ _).mono ?_; rintro e w' ⟨rfl, rfl⟩) | (go_at_call 76; refine (s_l1Value _ _ _).mono ?_; rintro e w' ⟨rfl, rfl⟩) | (go_at_call 47; refine (s_l1In _ _ _ _).mono ?_; rintro e w' ⟨rfl, rfl⟩))
                  go_ret
                  exact ⟨by first | rfl | simp, hbw.out⟩
                · have yw := beqF hw0
                  have e : R = false := by rw [hR.out]; simp [hn, hwf]
                  subst e
                  go_wp2_with (first | (go_at_call 105; refine (s_WidthOk _ _).mono ?_; rintro e w' ⟨rfl, rfl⟩) | (go_at_call 76; refine (s_l1Value _ _ _).mono ?_; rintro e w' ⟨rfl, rfl⟩) | (go_at_call 47; refine (s_l1In _ _ _ _).mono ?_; rintro e w' ⟨rfl, rfl⟩))
                  go_ret
                  exact ⟨by first | rfl | simp, hbw.out⟩
              | true =>
                have yw := widthOk_ne wd hwd
                have hwf : WF = true := by rw [hW.out]; simp [hwd]
                have hif : IF = isVal wd imm := hM.out
                by_cases za : a = 0
                rotate_left
                · have ya := bneT za
                  have e : R = false := by rw [hR.out]; simp [hn, hwf, za]
                  subst e
                  go_wp2_with (first | (go_at_call 105; refine (s_WidthOk _ _).mono ?_; rintro e w' ⟨rfl, rfl⟩) | (go_at_call 76; refine (s_l1Value _ _ _).mono ?_; rintro e w' ⟨rfl, rfl⟩) | (go_at_call 47; refine (s_l1In _ _ _ _).mono ?_; rintro e w' ⟨rfl, rfl⟩))
                  go_ret
                  exact ⟨by first | rfl | simp, hbw.out⟩
                subst za
                by_cases zb : b = 0
                rotate_left
                · have yb := bneT zb
                  have e : R = false := by rw [hR.out]; simp [hn, hwf, zb]
                  subst e
                  go_wp2_with (first | (go_at_call 105; refine (s_WidthOk _ _).mono ?_; rintro e w' ⟨rfl, rfl⟩) | (go_at_call 76; refine (s_l1Value _ _ _).mono ?_; rintro e w' ⟨rfl, rfl⟩) | (go_at_call 47; refine (s_l1In _ _ _ _).mono ?_; rintro e w' ⟨rfl, rfl⟩))
                  go_ret
                  exact ⟨by first | rfl | simp, hbw.out⟩
                subst zb
                by_cases zc0 : c0 = 0
                rotate_left
                · have yc0 := bneT zc0
                  have e : R = false := by rw [hR.out]; simp [hn, hwf, zc0]
                  subst e
                  go_wp2_with (first | (go_at_call 105; refine (s_WidthOk _ _).mono ?_; rintro e w' ⟨rfl, rfl⟩) | (go_at_call 76; refine (s_l1Value _ _ _).mono ?_; rintro e w' ⟨rfl, rfl⟩) | (go_at_call 47; refine (s_l1In _ _ _ _).mono ?_; rintro e w' ⟨rfl, rfl⟩))
                  go_ret
                  exact ⟨by first | rfl | simp, hbw.out⟩
                subst zc0
                have e : R = isVal wd imm := by rw [hR.out]; simp [hn, hwf, hif]
                subst e
                go_wp2_with (first | (go_at_call 105; refine (s_WidthOk _ _).mono ?_; rintro e w' ⟨rfl, rfl⟩) | (go_at_call 76; refine (s_l1Value _ _ _).mono ?_; rintro e w' ⟨rfl, rfl⟩) | (go_at_call 47; refine (s_l1In _ _ _ _).mono ?_; rintro e w' ⟨rfl, rfl⟩))
                go_ret
                exact ⟨by first | rfl | simp, hbw.out⟩
            · skip
              by_cases hw0 : wd = 0
              rotate_left
              · have hwf : WF = false := by rw [hW.out]; simp [hw0]
                have yw := beqF hw0
                have e : R = false := by rw [hR.out]; simp [hn, hwf]
                subst e
                go_wp2_with (first | (go_at_call 105; refine (s_WidthOk _ _).mono ?_; rintro e w' ⟨rfl, rfl⟩) | (go_at_call 76; refine (s_l1Value _ _ _).mono ?_; rintro e w' ⟨rfl, rfl⟩) | (go_at_call 47; refine (s_l1In _ _ _ _).mono ?_; rintro e w' ⟨rfl, rfl⟩))
                go_ret
                exact ⟨by first | rfl | simp, hbw.out⟩
              have hwf : WF = true := by rw [hW.out]; simp [hw0]
              have hif : IF = (imm == 0) := hM.out
              subst hw0
              by_cases zc0 : c0 = 0
              rotate_left
              · have yc0 := bneT zc0
                have e : R = false := by rw [hR.out]; simp [hn, hwf, zc0]
                subst e
                go_wp2_with (first | (go_at_call 105; refine (s_WidthOk _ _).mono ?_; rintro e w' ⟨rfl, rfl⟩) | (go_at_call 76; refine (s_l1Value _ _ _).mono ?_; rintro e w' ⟨rfl, rfl⟩) | (go_at_call 47; refine (s_l1In _ _ _ _).mono ?_; rintro e w' ⟨rfl, rfl⟩))
                go_ret
                exact ⟨by first | rfl | simp, hbw.out⟩
              subst zc0
              have e : R = (imm == 0) := by rw [hR.out]; simp [hn, hwf, hif]
              subst e
              go_wp2_with (first | (go_at_call 105; refine (s_WidthOk _ _).mono ?_; rintro e w' ⟨rfl, rfl⟩) | (go_at_call 76; refine (s_l1Value _ _ _).mono ?_; rintro e w' ⟨rfl, rfl⟩) | (go_at_call 47; refine (s_l1In _ _ _ _).mono ?_; rintro e w' ⟨rfl, rfl⟩))
              go_ret
              exact ⟨by first | rfl | simp, hbw.out⟩
            · skip
              by_cases hw0 : wd = 0
              rotate_left
              · have hwf : WF = false := by rw [hW.out]; simp [hw0]
                have yw := beqF hw0
                have e : R = false := by rw [hR.out]; simp [hn, hwf]
                subst e
                go_wp2_with (first | (go_at_call 105; refine (s_WidthOk _ _).mono ?_; rintro e w' ⟨rfl, rfl⟩) | (go_at_call 76; refine (s_l1Value _ _ _).mono ?_; rintro e w' ⟨rfl, rfl⟩) | (go_at_call 47; refine (s_l1In _ _ _ _).mono ?_; rintro e w' ⟨rfl, rfl⟩))
                go_ret
                exact ⟨by first | rfl | simp, hbw.out⟩
              have hwf : WF = true := by rw [hW.out]; simp [hw0]
              have hif : IF = (imm == 0) := hM.out
              subst hw0
              by_cases zb : b = 0
              rotate_left
              · have yb := bneT zb
                have e : R = false := by rw [hR.out]; simp [hn, hwf, zb]
                subst e
                go_wp2_with (first | (go_at_call 105; refine (s_WidthOk _ _).mono ?_; rintro e w' ⟨rfl, rfl⟩) | (go_at_call 76; refine (s_l1Value _ _ _).mono ?_; rintro e w' ⟨rfl, rfl⟩) | (go_at_call 47; refine (s_l1In _ _ _ _).mono ?_; rintro e w' ⟨rfl, rfl⟩))
                go_ret
                exact ⟨by first | rfl | simp, hbw.out⟩
              subst zb
              by_cases zc0 : c0 = 0
              rotate_left
              · have yc0 := bneT zc0
                have e : R = false := by rw [hR.out]; simp [hn, hwf, zc0]
                subst e
                go_wp2_with (first | (go_at_call 105; refine (s_WidthOk _ _).mono ?_; rintro e w' ⟨rfl, rfl⟩) | (go_at_call 76; refine (s_l1Value _ _ _).mono ?_; rintro e w' ⟨rfl, rfl⟩) | (go_at_call 47; refine (s_l1In _ _ _ _).mono ?_; rintro e w' ⟨rfl, rfl⟩))
                go_ret
                exact ⟨by first | rfl | simp, hbw.out⟩
              subst zc0
              have e : R = (imm == 0) := by rw [hR.out]; simp [hn, hwf, hif]
              subst e
              go_wp2_with (first | (go_at_call 105; refine (s_WidthOk _ _).mono ?_; rintro e w' ⟨rfl, rfl⟩) | (go_at_call 76; refine (s_l1Value _ _ _).mono ?_; rintro e w' ⟨rfl, rfl⟩) | (go_at_call 47; refine (s_l1In _ _ _ _).mono ?_; rintro e w' ⟨rfl, rfl⟩))
              go_ret
              exact ⟨by first | rfl | simp, hbw.out⟩
            · skip
              cases hwd : widthOk wd with
              | false =>
                have hwf : WF = false := by rw [hW.out]; simp; intro h; subst h; cases hwd
                by_cases hw0 : wd = 0
                · subst hw0
                  have e : R = false := by rw [hR.out]; simp [hn, hwf]
                  subst e
                  go_wp2_with (first | (go_at_call 105; refine (s_WidthOk _ _).mono ?_; rintro e w' ⟨rfl, rfl⟩) | (go_at_call 76; refine (s_l1Value _ _ _).mono ?_; rintro e w' ⟨rfl, rfl⟩) | (go_at_call 47; refine (s_l1In _ _ _ _).mono ?_; rintro e w' ⟨rfl, rfl⟩))
                  go_ret
                  exact ⟨by first | rfl | simp, hbw.out⟩
                · have yw := beqF hw0
                  have e : R = false := by rw [hR.out]; simp [hn, hwf]
                  subst e
                  go_wp2_with (first | (go_at_call 105; refine (s_WidthOk _ _).mono ?_; rintro e w' ⟨rfl, rfl⟩) | (go_at_call 76; refine (s_l1Value _ _ _).mono ?_; rintro e w' ⟨rfl, rfl⟩) | (go_at_call 47; refine (s_l1In _ _ _ _).mono ?_; rintro e w' ⟨rfl, rfl⟩))
                  go_ret
                  exact ⟨by first | rfl | simp, hbw.out⟩
              | true =>
                have yw := widthOk_ne wd hwd
                have hwf : WF = (wd == 8) := hW.out
                have hif : IF = (imm == 0) := hM.out
                by_cases zb : b = 0
                rotate_left
                · have yb := bneT zb
                  have e : R = false := by rw [hR.out]; simp [hn, hwf, zb]
                  subst e
                  go_wp2_with (first | (go_at_call 105; refine (s_WidthOk _ _).mono ?_; rintro e w' ⟨rfl, rfl⟩) | (go_at_call 76; refine (s_l1Value _ _ _).mono ?_; rintro e w' ⟨rfl, rfl⟩) | (go_at_call 47; refine (s_l1In _ _ _ _).mono ?_; rintro e w' ⟨rfl, rfl⟩))
                  go_ret
                  exact ⟨by first | rfl | simp, hbw.out⟩
                subst zb
                by_cases zc0 : c0 = 0
                rotate_left
                · have yc0 := bneT zc0
                  have e : R = false := by rw [hR.out]; simp [hn, hwf, zc0]
                  subst e
                  go_wp2_with (first | (go_at_call 105; refine (s_WidthOk _ _).mono ?_; rintro e w' ⟨rfl, rfl⟩) | (go_at_call 76; refine (s_l1Value _ _ _).mono ?_; rintro e w' ⟨rfl, rfl⟩) | (go_at_call 47; refine (s_l1In _ _ _ _).mono ?_; rintro e w' ⟨rfl, rfl⟩))
                  go_ret
                  exact ⟨by first | rfl | simp, hbw.out⟩
                subst zc0
                by_cases h8 : wd = 8
                · subst h8
                  have e : R = (imm == 0) := by rw [hR.out]; simp [hn, hwf, hif]
                  subst e
                  go_wp2_with (first | (go_at_call 105; refine (s_WidthOk _ _).mono ?_; rintro e w' ⟨rfl, rfl⟩) | (go_at_call 76; refine (s_l1Value _ _ _).mono ?_; rintro e w' ⟨rfl, rfl⟩) | (go_at_call 47; refine (s_l1In _ _ _ _).mono ?_; rintro e w' ⟨rfl, rfl⟩))
                  go_ret
                  exact ⟨by first | rfl | simp, hbw.out⟩
                · have y8 := beqF h8
                  have e : R = false := by rw [hR.out]; simp [hn, hwf, y8]
                  subst e
                  go_wp2_with (first | (go_at_call 105; refine (s_WidthOk _ _).mono ?_; rintro e w' ⟨rfl, rfl⟩) | (go_at_call 76; refine (s_l1Value _ _ _).mono ?_; rintro e w' ⟨rfl, rfl⟩) | (go_at_call 47; refine (s_l1In _ _ _ _).mono ?_; rintro e w' ⟨rfl, rfl⟩))
                  go_ret
                  exact ⟨by first | rfl | simp, hbw.out⟩
            · have b21 := beqF o21
              have b23 := beqF o23
              have b24 := beqF o24
              have b25 := beqF o25
              rcases hn with hn | hn | hn
              · skip
                cases hwd : widthOk wd with
                | false =>
                  have hwf : WF = false := by rw [hW.out]; simp [hwd, b21, b23, b24, b25, c26]
                  by_cases hw0 : wd = 0
                  · subst hw0
                    have e : R = false := by rw [hR.out]; simp [hn, hwf]
                    subst e
                    go_wp2_with (first | (go_at_call 105; refine (s_WidthOk _ _).mono ?_; rintro e w' ⟨rfl, rfl⟩) | (go_at_call 76; refine (s_l1Value _ _ _).mono ?_; rintro e w' ⟨rfl, rfl⟩) | (go_at_call 47; refine (s_l1In _ _ _ _).mono ?_; rintro e w' ⟨rfl, rfl⟩))
                    go_ret
                    exact ⟨by first | rfl | simp, hbw.out⟩
                  · have yw := beqF hw0
                    have e : R = false := by rw [hR.out]; simp [hn, hwf]
                    subst e
                    go_wp2_with (first | (go_at_call 105; refine (s_WidthOk _ _).mono ?_; rintro e w' ⟨rfl, rfl⟩) | (go_at_call 76; refine (s_l1Value _ _ _).mono ?_; rintro e w' ⟨rfl, rfl⟩) | (go_at_call 47; refine (s_l1In _ _ _ _).mono ?_; rintro e w' ⟨rfl, rfl⟩))
                    go_ret
                    exact ⟨by first | rfl | simp, hbw.out⟩
                | true =>
                  have yw := widthOk_ne wd hwd
                  have hwf : WF = true := by rw [hW.out]; simp [hwd, b21, b23, b24, b25, c26]
                  have hif : IF = (imm == 0) := by rw [hM.out]; simp [b21, b23, b24, b25, c26]
                  by_cases zb : b = 0
                  rotate_left
                  · have yb := bneT zb
                    have e : R = false := by rw [hR.out]; simp [hn, hwf, zb]
                    subst e
                    go_wp2_with (first | (go_at_call 105; refine (s_WidthOk _ _).mono ?_; rintro e w' ⟨rfl, rfl⟩) | (go_at_call 76; refine (s_l1Value _ _ _).mono ?_; rintro e w' ⟨rfl, rfl⟩) | (go_at_call 47; refine (s_l1In _ _ _ _).mono ?_; rintro e w' ⟨rfl, rfl⟩))
                    go_ret
                    exact ⟨by first | rfl | simp, hbw.out⟩
                  subst zb
                  by_cases zc0 : c0 = 0
                  rotate_left
                  · have yc0 := bneT zc0
                    have e : R = false := by rw [hR.out]; simp [hn, hwf, zc0]
                    subst e
                    go_wp2_with (first | (go_at_call 105; refine (s_WidthOk _ _).mono ?_; rintro e w' ⟨rfl, rfl⟩) | (go_at_call 76; refine (s_l1Value _ _ _).mono ?_; rintro e w' ⟨rfl, rfl⟩) | (go_at_call 47; refine (s_l1In _ _ _ _).mono ?_; rintro e w' ⟨rfl, rfl⟩))
                    go_ret
                    exact ⟨by first | rfl | simp, hbw.out⟩
                  subst zc0
                  have e : R = (imm == 0) := by rw [hR.out]; simp [hn, hwf, hif]
                  subst e
                  go_wp2_with (first | (go_at_call 105; refine (s_WidthOk _ _).mono ?_; rintro e w' ⟨rfl, rfl⟩) | (go_at_call 76; refine (s_l1Value _ _ _).mono ?_; rintro e w' ⟨rfl, rfl⟩) | (go_at_call 47; refine (s_l1In _ _ _ _).mono ?_; rintro e w' ⟨rfl, rfl⟩))
                  go_ret
                  exact ⟨by first | rfl | simp, hbw.out⟩
              · skip
                cases hwd : widthOk wd with
                | false =>
                  have hwf : WF = false := by rw [hW.out]; simp [hwd, b21, b23, b24, b25, c26]
                  by_cases hw0 : wd = 0
                  · subst hw0
                    have e : R = false := by rw [hR.out]; simp [hn, hwf]
                    subst e
                    go_wp2_with (first | (go_at_call 105; refine (s_WidthOk _ _).mono ?_; rintro e w' ⟨rfl, rfl⟩) | (go_at_call 76; refine (s_l1Value _ _ _).mono ?_; rintro e w' ⟨rfl, rfl⟩) | (go_at_call 47; refine (s_l1In _ _ _ _).mono ?_; rintro e w' ⟨rfl, rfl⟩))
                    go_ret
                    exact ⟨by first | rfl | simp, hbw.out⟩
                  · have yw := beqF hw0
                    have e : R = false := by rw [hR.out]; simp [hn, hwf]
                    subst e
                    go_wp2_with (first | (go_at_call 105; refine (s_WidthOk _ _).mono ?_; rintro e w' ⟨rfl, rfl⟩) | (go_at_call 76; refine (s_l1Value _ _ _).mono ?_; rintro e w' ⟨rfl, rfl⟩) | (go_at_call 47; refine (s_l1In _ _ _ _).mono ?_; rintro e w' ⟨rfl, rfl⟩))
                    go_ret
                    exact ⟨by first | rfl | simp, hbw.out⟩
                | true =>
                  have yw := widthOk_ne wd hwd
                  have hwf : WF = true := by rw [hW.out]; simp [hwd, b21, b23, b24, b25, c26]
                  have hif : IF = (imm == 0) := by rw [hM.out]; simp [b21, b23, b24, b25, c26]
                  by_cases zc0 : c0 = 0
                  rotate_left
                  · have yc0 := bneT zc0
                    have e : R = false := by rw [hR.out]; simp [hn, hwf, zc0]
                    subst e
                    go_wp2_with (first | (go_at_call 105; refine (s_WidthOk _ _).mono ?_; rintro e w' ⟨rfl, rfl⟩) | (go_at_call 76; refine (s_l1Value _ _ _).mono ?_; rintro e w' ⟨rfl, rfl⟩) | (go_at_call 47; refine (s_l1In _ _ _ _).mono ?_; rintro e w' ⟨rfl, rfl⟩))
                    go_ret
                    exact ⟨by first | rfl | simp, hbw.out⟩
                  subst zc0
                  have e : R = (imm == 0) := by rw [hR.out]; simp [hn, hwf, hif]
                  subst e
                  go_wp2_with (first | (go_at_call 105; refine (s_WidthOk _ _).mono ?_; rintro e w' ⟨rfl, rfl⟩) | (go_at_call 76; refine (s_l1Value _ _ _).mono ?_; rintro e w' ⟨rfl, rfl⟩) | (go_at_call 47; refine (s_l1In _ _ _ _).mono ?_; rintro e w' ⟨rfl, rfl⟩))
                  go_ret
                  exact ⟨by first | rfl | simp, hbw.out⟩
              · skip
                cases hwd : widthOk wd with
                | false =>
                  have hwf : WF = false := by rw [hW.out]; simp [hwd, b21, b23, b24, b25, c26]
                  by_cases hw0 : wd = 0
                  · subst hw0
                    have e : R = false := by rw [hR.out]; simp [hn, hwf]
                    subst e
                    go_wp2_with (first | (go_at_call 105; refine (s_WidthOk _ _).mono ?_; rintro e w' ⟨rfl, rfl⟩) | (go_at_call 76; refine (s_l1Value _ _ _).mono ?_; rintro e w' ⟨rfl, rfl⟩) | (go_at_call 47; refine (s_l1In _ _ _ _).mono ?_; rintro e w' ⟨rfl, rfl⟩))
                    go_ret
                    exact ⟨by first | rfl | simp, hbw.out⟩
                  · have yw := beqF hw0
                    have e : R = false := by rw [hR.out]; simp [hn, hwf]
                    subst e
                    go_wp2_with (first | (go_at_call 105; refine (s_WidthOk _ _).mono ?_; rintro e w' ⟨rfl, rfl⟩) | (go_at_call 76; refine (s_l1Value _ _ _).mono ?_; rintro e w' ⟨rfl, rfl⟩) | (go_at_call 47; refine (s_l1In _ _ _ _).mono ?_; rintro e w' ⟨rfl, rfl⟩))
                    go_ret
                    exact ⟨by first | rfl | simp, hbw.out⟩
                | true =>
                  have yw := widthOk_ne wd hwd
                  have hwf : WF = true := by rw [hW.out]; simp [hwd, b21, b23, b24, b25, c26]
                  have hif : IF = (imm == 0) := by rw [hM.out]; simp [b21, b23, b24, b25, c26]
                  have e : R = (imm == 0) := by rw [hR.out]; simp [hn, hwf, hif]
                  subst e
                  go_wp2_with (first | (go_at_call 105; refine (s_WidthOk _ _).mono ?_; rintro e w' ⟨rfl, rfl⟩) | (go_at_call 76; refine (s_l1Value _ _ _).mono ?_; rintro e w' ⟨rfl, rfl⟩) | (go_at_call 47; refine (s_l1In _ _ _ _).mono ?_; rintro e w' ⟨rfl, rfl⟩))
                  go_ret
                  exact ⟨by first | rfl | simp, hbw.out⟩
      · have hN2 := hN.out
        simp at hN2
        subst hN2
        go_enter Tryz.func145, Tryz.ntmps145
        go_wp2_with fail
        refine (s_l1In _ _ _ _).mono ?_; rintro e w' ⟨rfl, rfl⟩
        go_wp2_with fail
        refine (hops _ _ (hv0.out.mv (hbl _))).mono ?_; rintro e w1 ⟨v', rfl, ho1, hb1⟩
        obtain ⟨A1, c1, rfl, -, -, hr1⟩ := (own_ints (L := lm) ho1 (by simp only [lm]; omega)).2.sm
        have k0 := bat hb1 w.heap.size (by simp)
        simp at k0
        have hbw := Hd.mk ((hbl _).then hb1)
        clear hb1 ho1 hops
        go_wp2
        go_loop [8] (fun s8 => ∃ k : Nat, k ≤ l.length ∧ s8 = .int .i64 k ∧ Hd ((l.take k).all (isIdB ids) = true)) (fun s8 => l.length - (intOf s8).toNat)
        case atStart => exact ⟨0, Nat.zero_le _, rfl, ⟨by simp⟩⟩
        case round =>
          obtain ⟨k, hk, rfl, hall⟩ := hrel
          by_cases hlt : k < l.length
          · obtain ⟨b1, off1, cs1, hA, hbl1, hk1, hat⟩ := hr1.out.in0 (Below.refl _ _) k hlt
            cases hA
            cases hk1
            have g0 := hat 0 _ rfl
            simp at g0
            clear hat
            have hsn := Hd.mk (all_take_snoc (isIdB ids) l k hlt)
            have hfail := fun h => Hd.mk (all_false_of (isIdB ids) l k hlt h)
            have hid : isIdB ids l[k] = inR l[k] 0 (ids - 1) := rfl
            generalize l[k] = y at *
            cases hq : inR y 0 (ids - 1) with
            | false =>
              have hp2 := hp'.out
              rw [(hfail (by rw [hid, hq])).out] at hp2
              simp at hp2
              subst hp2
              go_wp2_with (go_at_call 47; refine (s_l1In _ _ _ _).mono ?_; rintro e w' ⟨rfl, rfl⟩)
              go_ret
              exact ⟨rfl, hbw.out⟩
            | true =>
              go_wp2_with (go_at_call 47; refine (s_l1In _ _ _ _).mono ?_; rintro e w' ⟨rfl, rfl⟩)
              go_round
              case rel => exact ⟨k + 1, by omega, by go_num, ⟨by rw [hsn.out, hall.out, hid, hq]; rfl⟩⟩
              case measure => simp [intOf]; omega
          · have e : k = l.length := by omega
            subst e
            rw [List.take_length] at hall
            have hp2 := hp'.out
            rw [hall.out] at hp2
            have hR := Hd.mk hp2
            clear hp2 hp' hn3 hN hcl
            cases hwd : widthOk wd with
            | false =>
              have hwf : WF = false := by rw [hW.out]; simp [hwd]
              by_cases hw0 : wd = 0
              · subst hw0
                have e : R = false := by rw [hR.out]; simp [hwf]
                subst e
                go_wp2_with (first | (go_at_call 105; refine (s_WidthOk _ _).mono ?_; rintro e w' ⟨rfl, rfl⟩) | (go_at_call 76; refine (s_l1Value _ _ _).mono ?_; rintro e w' ⟨rfl, rfl⟩) | (go_at_call 47; refine (s_l1In _ _ _ _).mono ?_; rintro e w' ⟨rfl, rfl⟩))
                go_ret
                exact ⟨by first | rfl | simp, hbw.out⟩
              · have yw := beqF hw0
                have e : R = false := by rw [hR.out]; simp [hwf]
                subst e
                go_wp2_with (first | (go_at_call 105; refine (s_WidthOk _ _).mono ?_; rintro e w' ⟨rfl, rfl⟩) | (go_at_call 76; refine (s_l1Value _ _ _).mono ?_; rintro e w' ⟨rfl, rfl⟩) | (go_at_call 47; refine (s_l1In _ _ _ _).mono ?_; rintro e w' ⟨rfl, rfl⟩))
                go_ret
                exact ⟨by first | rfl | simp, hbw.out⟩
            | true =>
              have yw := widthOk_ne wd hwd
              have hwf : WF = true := by rw [hW.out]; simp [hwd]
              have hif : IF = inR imm 0 (funcs - 1) := hM.out
              by_cases h4 : 4 < args.length
              · have hPr := hpre'.out
                rw [show decide (args.length ≤ 4) = false by simp; omega] at hPr
                have d4 : decide (4 < (args.length : Int)) = true := by simp; omega
                have e : R = false := by rw [hR.out]; simp [hPr]
                subst e
                go_wp2_with (first | (go_at_call 105; refine (s_WidthOk _ _).mono ?_; rintro e w' ⟨rfl, rfl⟩) | (go_at_call 76; refine (s_l1Value _ _ _).mono ?_; rintro e w' ⟨rfl, rfl⟩) | (go_at_call 47; refine (s_l1In _ _ _ _).mono ?_; rintro e w' ⟨rfl, rfl⟩))
                go_ret
                exact ⟨by first | rfl | simp, hbw.out⟩
              have hPr := hpre'.out
              rw [show decide (args.length ≤ 4) = true by simp; omega] at hPr
              have d4 : decide (4 < (args.length : Int)) = false := by simp; omega
              subst hPr
              by_cases za : a = 0
              rotate_left
              · have ya := bneT za
                have e : R = false := by rw [hR.out]; simp [hwf, za]
                subst e
                go_wp2_with (first | (go_at_call 105; refine (s_WidthOk _ _).mono ?_; rintro e w' ⟨rfl, rfl⟩) | (go_at_call 76; refine (s_l1Value _ _ _).mono ?_; rintro e w' ⟨rfl, rfl⟩) | (go_at_call 47; refine (s_l1In _ _ _ _).mono ?_; rintro e w' ⟨rfl, rfl⟩))
                go_ret
                exact ⟨by first | rfl | simp, hbw.out⟩
              subst za
              by_cases zb : b = 0
              rotate_left
              · have yb := bneT zb
                have e : R = false := by rw [hR.out]; simp [hwf, zb]
                subst e
                go_wp2_with (first | (go_at_call 105; refine (s_WidthOk _ _).mono ?_; rintro e w' ⟨rfl, rfl⟩) | (go_at_call 76; refine (s_l1Value _ _ _).mono ?_; rintro e w' ⟨rfl, rfl⟩) | (go_at_call 47; refine (s_l1In _ _ _ _).mono ?_; rintro e w' ⟨rfl, rfl⟩))
                go_ret
                exact ⟨by first | rfl | simp, hbw.out⟩
              subst zb
              by_cases zc0 : c0 = 0
              rotate_left
              · have yc0 := bneT zc0
                have e : R = false := by rw [hR.out]; simp [hwf, zc0]
                subst e
                go_wp2_with (first | (go_at_call 105; refine (s_WidthOk _ _).mono ?_; rintro e w' ⟨rfl, rfl⟩) | (go_at_call 76; refine (s_l1Value _ _ _).mono ?_; rintro e w' ⟨rfl, rfl⟩) | (go_at_call 47; refine (s_l1In _ _ _ _).mono ?_; rintro e w' ⟨rfl, rfl⟩))
                go_ret
                exact ⟨by first | rfl | simp, hbw.out⟩
              subst zc0
              have e : R = inR imm 0 (funcs - 1) := by rw [hR.out]; simp [hwf, hif]
              subst e
              go_wp2_with (first | (go_at_call 105; refine (s_WidthOk _ _).mono ?_; rintro e w' ⟨rfl, rfl⟩) | (go_at_call 76; refine (s_l1Value _ _ _).mono ?_; rintro e w' ⟨rfl, rfl⟩) | (go_at_call 47; refine (s_l1In _ _ _ _).mono ?_; rintro e w' ⟨rfl, rfl⟩))
              go_ret
              exact ⟨by first | rfl | simp, hbw.out⟩
end Go.Proofs.YtkcgejbnhpccdaaGreat
set_option linter.unusedSimpArgs false
set_option linter.unusedVariables false
namespace Go.Proofs.YtkcgejbnhpccdaaGreat
open Go.RowKit
theorem funcOk_spec (f : XFunc) (funcs : Int) : funcOk f funcs = ((decide (f.params.length ≤ 4) && (widthOk f.ret && (inR f.blocks.length 1 10 && decide (countOf f ≤ 60)))) && (f.params.all widthOk && f.blocks.all (blockOk (countOf f) funcs f.blocks.length))) := by
  simp only [funcOk]
  generalize decide (f.params.length ≤ 4) = a
  generalize widthOk f.ret = b
  generalize inR f.blocks.length 1 10 = c
  generalize f.params.all widthOk = d
  generalize decide (countOf f ≤ 60) = e
  cases a <;> cases b <;> cases c <;> cases d <;> cases e <;> simp
set_option maxHeartbeats 8000000 in
set_option maxRecDepth 100000 in
theorem s_l2Func (f : XFunc) (cs : List Value) (funcs : Int) (w : World) (hf : KFunc lm w f cs) (hf0 : 0 ≤ funcs) (hf1 : funcs ≤ 1048576) :
    Calls Tryz.prog 99 #[.agg cs.toArray, .int .i64 funcs] w (Ret (.bool (funcOk f funcs)) w) := by
  have hR := Hd.mk (funcOk_spec f funcs)
  have hcount := fun W hW => s_CountOf f cs W (KM.mv hf hW)
  have hc0 := countOf_nn f
  obtain ⟨v1, v2, rfl, hp, hb⟩ := hf
  obtain ⟨A1, c1, rfl, -, hl1, hp0⟩ := hp.sm
  obtain ⟨A2, c2, rfl, -, hl2, hb0⟩ := hb.sm
  have hbl := fun o => (Below.refl w.heap.size w).al (Nat.le_refl _) o
  clear hb hp
  generalize funcOk f funcs = R at *
  generalize countOf f = ids at *
  generalize hpp : f.params = pl at *
  generalize f.ret = r at *
  generalize f.blocks = l at *
  clear hpp
  cases hpre : (decide (pl.length ≤ 4) && (widthOk r && (inR l.length 1 10 && decide (ids ≤ 60)))) with
  | false =>
    have hR2 := hR.out
    rw [hpre] at hR2
    simp at hR2
    subst hR2
    by_cases h1 : 4 < pl.length
    · have d1 : decide (4 < (pl.length : Int)) = true := by simp; omega
      clear hpre
      go_enter Tryz.func99, Tryz.ntmps99
      go_wp2_with fail
      refine (hcount _ (hbl _)).mono ?_; rintro e w1 ⟨rfl, hb1⟩
      have k0 := bat hb1 w.heap.size (by simp)
      simp at k0
      go_wp2
      go_ret
      exact ⟨rfl, (hbl _).then hb1⟩
    have d1 : decide (4 < (pl.length : Int)) = false := by simp; omega
    rw [show decide (pl.length ≤ 4) = true by simp; omega] at hpre
    simp only [Bool.true_and] at hpre
    cases hw : widthOk r with
    | false =>
      clear hpre
      go_enter Tryz.func99, Tryz.ntmps99
      go_wp2_with fail
      refine (hcount _ (hbl _)).mono ?_; rintro e w1 ⟨rfl, hb1⟩
      have k0 := bat hb1 w.heap.size (by simp)
      simp at k0
      go_wp2_with (go_at_call 105; refine (s_WidthOk _ _).mono ?_; rintro e w' ⟨rfl, rfl⟩)
      go_ret
      exact ⟨rfl, (hbl _).then hb1⟩
    | true =>
      rw [hw] at hpre
      simp only [Bool.true_and] at hpre
      cases hn : inR l.length 1 10 with
      | false =>
        clear hpre
        go_enter Tryz.func99, Tryz.ntmps99
        go_wp2_with fail
        refine (hcount _ (hbl _)).mono ?_; rintro e w1 ⟨rfl, hb1⟩
        have k0 := bat hb1 w.heap.size (by simp)
        simp at k0
        go_wp2_with (first | (go_at_call 105; refine (s_WidthOk _ _).mono ?_; rintro e w' ⟨rfl, rfl⟩) | (go_at_call 47; refine (s_l1In _ _ _ _).mono ?_; rintro e w' ⟨rfl, rfl⟩))
        go_ret
        exact ⟨rfl, (hbl _).then hb1⟩
      | true =>
        rw [hn] at hpre
        simp only [Bool.true_and] at hpre
        have d2 : decide (60 < ids) = true := by simp at hpre ⊢; omega
        clear hpre
        go_enter Tryz.func99, Tryz.ntmps99
        go_wp2_with fail
        refine (hcount _ (hbl _)).mono ?_; rintro e w1 ⟨rfl, hb1⟩
        have k0 := bat hb1 w.heap.size (by simp)
        simp at k0
        go_wp2_with (first | (go_at_call 105; refine (s_WidthOk _ _).mono ?_; rintro e w' ⟨rfl, rfl⟩) | (go_at_call 47; refine (s_l1In _ _ _ _).mono ?_; rintro e w' ⟨rfl, rfl⟩))
        go_ret
        exact ⟨rfl, (hbl _).then hb1⟩
  | true =>
    rw [hpre] at hR
    simp only [Bool.and_eq_true, decide_eq_true_eq] at hpre
    obtain ⟨h1, hw, hn, hi60⟩ := hpre
    have d1 : decide (4 < (pl.length : Int)) = false := by simp; omega
    have d2 : decide (60 < ids) = false := by simp; omega
    go_enter Tryz.func99, Tryz.ntmps99
    go_wp2_with fail
    refine (hcount _ (hbl _)).mono ?_; rintro e w1 ⟨rfl, hb1⟩
    have k0 := bat hb1 w.heap.size (by simp)
    have hz1 := hb1.size
    simp at k0 hz1
    have hbw1 := Hd.mk ((hbl _).then hb1)
    clear hb1 hcount
    go_wp2_with (first | (go_at_call 105; refine (s_WidthOk _ _).mono ?_; rintro e w' ⟨rfl, rfl⟩) | (go_at_call 47; refine (s_l1In _ _ _ _).mono ?_; rintro e w' ⟨rfl, rfl⟩))
    clear d1 d2 hw hn
    go_loop [7] (fun s7 => ∃ k : Nat, k ≤ pl.length ∧ s7 = .int .i64 k ∧ Hd ((pl.take k).all widthOk = true)) (fun s7 => pl.length - (intOf s7).toNat)
    case atStart => exact ⟨0, Nat.zero_le _, rfl, ⟨by simp⟩⟩
    case round =>
      obtain ⟨k, hk, rfl, hall⟩ := hrel
      by_cases hlt : k < pl.length
      · obtain ⟨b, off, cs, hA, hbl', hk1, hat⟩ := hp0.out.in0 hbw1.out k hlt
        cases hA
        cases hk1
        have g0 := hat 0 _ rfl
        simp at g0
        clear hat
        have hsn := Hd.mk (all_take_snoc widthOk pl k hlt)
        have hfail := fun h => Hd.mk (all_false_of widthOk pl k hlt h)
        generalize pl[k] = y at *
        cases hq : widthOk y with
        | false =>
          have hR2 := hR.out
          rw [(hfail hq).out] at hR2
          simp at hR2
          subst hR2
          go_wp2_with (go_at_call 105; refine (s_WidthOk _ _).mono ?_; rintro e w' ⟨rfl, rfl⟩)
          go_ret
          exact ⟨rfl, hbw1.out⟩
        | true =>
          go_wp2_with (go_at_call 105; refine (s_WidthOk _ _).mono ?_; rintro e w' ⟨rfl, rfl⟩)
          go_round
          case rel => exact ⟨k + 1, by omega, by go_num, ⟨by rw [hsn.out, hall.out, hq]; rfl⟩⟩
          case measure => simp [intOf]; omega
      · have e : k = pl.length := by omega
        subst e
        rw [List.take_length] at hall
        rw [hall.out] at hR
        clear hp0 hall
        have hR' := Hd.mk (show R = l.all (blockOk ids funcs l.length) by rw [hR.out]; rfl)
        clear hR
        have hz1' : w.heap.size < w1.heap.size := by omega
        go_wp2
        go_loopw [8] (fun s8 wr => ∃ k : Nat, k ≤ l.length ∧ s8 = .int .i64 k ∧ Hd (Below w1.heap.size w1 wr) ∧ Hd ((l.take k).all (blockOk ids funcs l.length) = true)) (fun s8 _ => l.length - (intOf s8).toNat)
        case atStart => exact ⟨0, Nat.zero_le _, rfl, ⟨Below.refl _ _⟩, ⟨by simp⟩⟩
        case round =>
          obtain ⟨k, hk, rfl, hbr, hall⟩ := hrel
          obtain ⟨wo, rfl⟩ : ∃ wo : World, wo = wr := ⟨_, rfl⟩
          have hzr := hbr.out.size
          have hbw := Hd.mk (hbw1.out.then hbr.out)
          replace k0 := fun o => (bat hbr.out w.heap.size hz1' o).trans (k0 o)
          by_cases hlt : k < l.length
          · obtain ⟨b, off, cs, hA, hbl', ⟨v1, v2, rfl, hr, hr2⟩, hat⟩ := hb0.out.in0 hbw.out k hlt
            cases hA
            have g0 := hat 0 _ rfl
            have g1 := hat 1 _ rfl
            have g2 := hat 2 _ rfl
            have g3 := hat 3 _ rfl
            have g4 := hat 4 _ rfl
            have g5 := hat 5 _ rfl
            clear hat
            simp at g0 g1 g2 g3 g4 g5
            have hsn := Hd.mk (all_take_snoc (blockOk ids funcs l.length) l k hlt)
            have hbk : blockOk ids funcs l.length l[k] = (l[k].phis.all (phiOk ids) && (l[k].insts.all (instOk ids funcs) && termOk ids l.length l[k].term)) := by simp only [blockOk, Bool.and_assoc]
            have hfail := Hd.mk (fun h => all_false_of (blockOk ids funcs l.length) l k hlt h)
            have hbk' := Hd.mk hbk
            clear hbk
            generalize l[k] = x at *
            obtain ⟨A3, c3, rfl, -, hl3, hr0⟩ := hr.sm
            obtain ⟨A4, c4, rfl, -, hl4, hr20⟩ := hr2.sm
            clear hr hr2
            have hT := fun W => s_l2Term x.term ids l.length W hc0 (by omega) (by omega) (by omega)
            simp only [termV] at hT
            generalize x.term = t at *
            generalize x.phis = ps at *
            generalize x.insts = is at *
            have z0 : w.heap.size < wo.heap.size := by omega
            have hno : ∀ q1 q2 q3 : Bool, ps.all (phiOk ids) = q1 → is.all (instOk ids funcs) = q2 → termOk ids l.length t = q3 → (q1 && (q2 && q3)) = false → R = false := fun q1 q2 q3 e1 e2 e3 h => by rw [hR'.out]; exact hfail.out (by rw [hbk'.out, e1, e2, e3, h])
            have hno' := Hd.mk hno
            clear hno hfail
            go_wp2
            generalize hwx : wo.alloc (.cells #[.slice A3 ps.length c3, .slice A4 is.length c4, .int .i64 t.kind, .int .i64 t.a, .int .i64 t.x, .int .i64 t.y] 32) = wx
            have hbx : Below wo.heap.size wo wx := by subst hwx; exact (Below.refl _ _).al (Nat.le_refl _) _
            have kx : ∀ o, wx.cell? ⟨wo.heap.size, o, none⟩ = (#[.slice A3 ps.length c3, .slice A4 is.length c4, .int .i64 t.kind, .int .i64 t.a, .int .i64 t.x, .int .i64 t.y] : Array Value)[o]? := by subst hwx; intro o; simp
            have kf := fun o => (bat hbx w.heap.size z0 o).trans (k0 o)
            have hzx := hbx.size
            have hzx1 : wo.heap.size < wx.heap.size := by subst hwx; simp
            have hbwx := Hd.mk (hbw.out.then hbx)
            have hbrx := Hd.mk (hbr.out.then hbx)
            clear hwx hbx k0 g0 g1 g2 g3 g4 g5
            go_loop [10] (fun s10 => ∃ i : Nat, i ≤ ps.length ∧ s10 = .int .i64 i ∧ Hd ((ps.take i).all (phiOk ids) = true)) (fun s10 => ps.length - (intOf s10).toNat)
            case atStart => exact ⟨0, Nat.zero_le _, rfl, ⟨by simp⟩⟩
            case round =>
              obtain ⟨i, hi, rfl, hallP⟩ := hrel
              by_cases hlti : i < ps.length
              · obtain ⟨b5, off5, cs5, hA5, hbl5, ⟨v5, rfl, hr5⟩, hat5⟩ := hr0.out.in0 hbwx.out i hlti
                cases hA5
                have i0 := hat5 0 _ rfl
                have i1 := hat5 1 _ rfl
                clear hat5
                simp at i0 i1
                have hsnP := Hd.mk (all_take_snoc (phiOk ids) ps i hlti)
                have hfailP := Hd.mk (fun h => all_false_of (phiOk ids) ps i hlti h)
                have hpk := Hd.mk (show phiOk ids ps[i] = (widthOk ps[i].w && decide (ps[i].ins.length ≤ 10) && ps[i].ins.all (isIdB ids)) from rfl)
                generalize ps[i] = p at *
                obtain ⟨A6, c6, rfl, -, hl6, hr60⟩ := hr5.sm
                clear hr5
                cases hpw : widthOk p.w with
                | false =>
                  have e := hno'.out false _ _ (hfailP.out (by rw [hpk.out, hpw]; rfl)) rfl rfl rfl
                  subst e
                  go_wp2_with (go_at_call 105; refine (s_WidthOk _ _).mono ?_; rintro e w' ⟨rfl, rfl⟩)
                  go_ret
                  exact ⟨rfl, hbwx.out⟩
                | true =>
                  by_cases h10 : 10 < p.ins.length
                  · have d10 : decide (10 < (p.ins.length : Int)) = true := by simp; omega
                    have e := hno'.out false _ _ (hfailP.out (by rw [hpk.out, hpw, show decide (p.ins.length ≤ 10) = false by simp; omega]; rfl)) rfl rfl rfl
                    subst e
                    go_wp2_with (go_at_call 105; refine (s_WidthOk _ _).mono ?_; rintro e w' ⟨rfl, rfl⟩)
                    go_ret
                    exact ⟨rfl, hbwx.out⟩
                  · have d10 : decide (10 < (p.ins.length : Int)) = false := by simp; omega
                    rw [hpw, show decide (p.ins.length ≤ 10) = true by simp; omega] at hpk
                    generalize p.ins = ns at *
                    generalize p.w = pw at *
                    go_wp2_with (go_at_call 105; refine (s_WidthOk _ _).mono ?_; rintro e w' ⟨rfl, rfl⟩)
                    clear hpw d10
                    go_loop [11] (fun s11 => ∃ j : Nat, j ≤ ns.length ∧ s11 = .int .i64 j ∧ Hd ((ns.take j).all (isIdB ids) = true)) (fun s11 => ns.length - (intOf s11).toNat)
                    case atStart => exact ⟨0, Nat.zero_le _, rfl, ⟨by simp⟩⟩
                    case round =>
                      obtain ⟨j, hj, rfl, hallN⟩ := hrel
                      by_cases hltj : j < ns.length
                      · obtain ⟨b7, off7, cs7, hA7, hbl7, hk7, hat7⟩ := hr60.out.in0 hbwx.out j hltj
                        cases hA7
                        cases hk7
                        have n0 := hat7 0 _ rfl
                        simp at n0
                        clear hat7
                        have hsnN := Hd.mk (all_take_snoc (isIdB ids) ns j hltj)
                        have hfailN := Hd.mk (fun h => all_false_of (isIdB ids) ns j hltj h)
                        have hid : isIdB ids ns[j] = inR ns[j] 0 (ids - 1) := rfl
                        generalize ns[j] = y at *
                        cases hq : inR y 0 (ids - 1) with
                        | false =>
                          have e := hno'.out false _ _ (hfailP.out (by rw [hpk.out, hfailN.out (by rw [hid, hq])]; rfl)) rfl rfl rfl
                          subst e
                          go_wp2_with (go_at_call 47; refine (s_l1In _ _ _ _).mono ?_; rintro e w' ⟨rfl, rfl⟩)
                          go_ret
                          exact ⟨rfl, hbwx.out⟩
                        | true =>
                          go_wp2_with (go_at_call 47; refine (s_l1In _ _ _ _).mono ?_; rintro e w' ⟨rfl, rfl⟩)
                          go_round
                          case rel => exact ⟨j + 1, by omega, by go_num, ⟨by rw [hsnN.out, hallN.out, hid, hq]; rfl⟩⟩
                          case measure => simp [intOf]; omega
                      · have e : j = ns.length := by omega
                        subst e
                        rw [List.take_length] at hallN
                        rw [hallN.out] at hpk
                        go_wp2
                        go_round
                        case rel => exact ⟨i + 1, by omega, by go_num, ⟨by rw [hsnP.out, hallP.out, hpk.out]; rfl⟩⟩
                        case measure => simp [intOf]; omega
              · have e : i = ps.length := by omega
                subst e
                rw [List.take_length] at hallP
                have hall1 := hallP.out
                rw [hall1] at hbk'
                clear hallP
                go_wp2
                go_loopw [12] (fun s12 wr => ∃ i : Nat, i ≤ is.length ∧ s12 = .int .i64 i ∧ Hd (Below wx.heap.size wx wr) ∧ Hd ((is.take i).all (instOk ids funcs) = true)) (fun s12 _ => is.length - (intOf s12).toNat)
                case atStart => exact ⟨0, Nat.zero_le _, rfl, ⟨Below.refl _ _⟩, ⟨by simp⟩⟩
                case round =>
                  obtain ⟨i, hi, rfl, hbq, hallI⟩ := hrel
                  have hzq := hbq.out.size
                  have hbwq := Hd.mk (hbwx.out.then hbq.out)
                  replace kx := fun o => (bat hbq.out wo.heap.size hzx1 o).trans (kx o)
                  replace kf := fun o => (bat hbq.out w.heap.size (by omega) o).trans (kf o)
                  by_cases hlti : i < is.length
                  · obtain ⟨b5, off5, cs5, hA5, hbl5, ⟨v5, rfl, hr5⟩, hat5⟩ := hr20.out.in0 hbwq.out i hlti
                    cases hA5
                    have i0 := hat5 0 _ rfl
                    have i1 := hat5 1 _ rfl
                    have i2 := hat5 2 _ rfl
                    have i3 := hat5 3 _ rfl
                    have i4 := hat5 4 _ rfl
                    have i5 := hat5 5 _ rfl
                    have i6 := hat5 6 _ rfl
                    clear hat5
                    simp at i0 i1 i2 i3 i4 i5 i6
                    have hsnI := Hd.mk (all_take_snoc (instOk ids funcs) is i hlti)
                    have hfailI := Hd.mk (fun h => all_false_of (instOk ids funcs) is i hlti h)
                    have hI := s_l2Inst is[i] v5 ids funcs wr (hr5.mv hbwq.out) hc0 (by omega) hf0 hf1
                    simp only [instV] at hI
                    obtain ⟨A6, c6, rfl, -, -, -⟩ := hr5.sm
                    clear hr5
                    generalize hq : instOk ids funcs is[i] = q at *
                    generalize is[i] = x at *
                    clear hq
                    cases q with
                    | false =>
                      have e := hno'.out true false _ hall1 (hfailI.out rfl) rfl rfl
                      subst e
                      go_wp2_with fail
                      refine hI.mono ?_; rintro e wz ⟨rfl, hbz⟩
                      go_wp2
                      go_ret
                      exact ⟨rfl, hbwq.out.then hbz⟩
                    | true =>
                      go_wp2_with fail
                      refine hI.mono ?_; rintro e wz ⟨rfl, hbz⟩
                      have hbz' := Hd.mk (hbq.out.then hbz)
                      clear hbz hI
                      go_wp2
                      go_roundw
                      case rel => exact ⟨i + 1, by omega, by go_num, hbz', ⟨by rw [hsnI.out, hallI.out]; rfl⟩⟩
                      case measure => simp [intOf]; omega
                  · have e : i = is.length := by omega
                    subst e
                    rw [List.take_length] at hallI
                    have hall2 := hallI.out
                    rw [hall2] at hbk'
                    clear hallI
                    have hbrq := Hd.mk (hbrx.out.then hbq.out)
                    cases hq : termOk ids l.length t with
                    | false =>
                      rw [hq] at hT
                      have e := hno'.out true true false hall1 hall2 hq rfl
                      subst e
                      clear hq
                      go_wp2_with fail
                      refine (hT _).mono ?_; rintro e wz ⟨rfl, hbz⟩
                      go_wp2
                      go_ret
                      exact ⟨rfl, hbwq.out.then hbz⟩
                    | true =>
                      rw [hq] at hT hbk'
                      clear hq
                      go_wp2_with fail
                      refine (hT _).mono ?_; rintro e wz ⟨rfl, hbz⟩
                      have hbz' := Hd.mk (hbrq.out.then hbz)
                      clear hbz hT
                      go_wp2
                      go_roundw
                      case rel => exact ⟨k + 1, by omega, by go_num, hbz', ⟨by rw [hsn.out, hall.out, hbk'.out]; rfl⟩⟩
                      case measure => simp [intOf]; omega
          · have e : k = l.length := by omega
            subst e
            rw [List.take_length] at hall
            have hR2 := hR'.out
            rw [hall.out] at hR2
            subst hR2
            go_wp2
            go_ret
            exact ⟨rfl, hbw.out⟩
end Go.Proofs.YtkcgejbnhpccdaaGreat
set_option linter.unusedSimpArgs false
set_option linter.unusedVariables false
namespace Go.Proofs.YtkcgejbnhpccdaaGreat
open Go.RowKit
set_option maxRecDepth 20000 in
set_option maxHeartbeats 8000000 in
theorem s_l4Func (m : XMod) (cm : List Value) (f : XFunc) (cf : List Value) (n : Int) (w : World) (hm : KMod lm w m cm) (hf : KFunc lm w f cf) (hok : funcOk f n = true) (hqc : ∀ b ∈ f.blocks, ∀ i ∈ b.insts, QCall m i) :
    Calls Tryz.prog 75 #[.agg cm.toArray, .agg cf.toArray] w (Ret (.int .i64 (checkF m f)) w) := by
  have hm' := Hd.mk hm
  have hf' := Hd.mk hf
  obtain ⟨vm, rfl, hrm⟩ := hm
  obtain ⟨Am, cm, rfl, -, -, -⟩ := hrm.sm
  obtain ⟨v1, v2, rfl, hp, hb⟩ := hf
  obtain ⟨A1, c1, rfl, -, -, -⟩ := hp.sm
  obtain ⟨A2, c2, rfl, hcap, hl2, hb0⟩ := hb.sm
  clear hp hb hrm
  have hfo := func_fo hok
  have hn1 := hfo.1.2.1
  have hn10 := hfo.1.2.2
  have hbl := fun o o' => ((Below.refl w.heap.size w).al (Nat.le_refl _) o).al (by simp) o'
  obtain ⟨W0, hW0⟩ : ∃ W0 : World, W0 = (w.alloc (.cells #[.slice Am m.funcs.length cm] 38)).alloc (.cells #[.slice A1 f.params.length c1, .int .i64 f.ret, .slice A2 f.blocks.length c2] 35) := ⟨_, rfl⟩
  have hB0 : Below w.heap.size w W0 := by rw [hW0]; exact hbl _ _
  have hz0 : W0.heap.size = w.heap.size + 2 := by rw [hW0]; simp
  have hzm : Hd (W0.cell? ⟨w.heap.size, 0, none⟩ = some (.slice Am m.funcs.length cm)) := ⟨by rw [hW0]; simp⟩
  have hzf : Hd (∀ o u, [Value.slice A1 f.params.length c1, .int .i64 f.ret, .slice A2 f.blocks.length c2][o]? = some u → W0.cell? ⟨w.heap.size + 1, o, none⟩ = some u) := ⟨fun o u hu => by rw [hW0]; exact new_cell _ _ _ (by simp) o u (by simpa using hu)⟩
  have hW0' := Hd.mk hW0
  have hB0' := Hd.mk hB0
  have hpr := fun W (hW : Below w.heap.size w W) => s_l3Preds f _ 0 W (KM.mv hf'.out hW)
  have hph := fun W (hW : Below w.heap.size w W) => s_l4Phis f _ W (KM.mv hf'.out hW) hn10
  have hty := fun W (hW : Below w.heap.size w W) => s_l4Types f _ n W (KM.mv hf'.out hW) hok
  have hca := fun W (hW : Below w.heap.size w W) => s_l4Calls m _ f _ n W (KM.mv hm'.out hW) (KM.mv hf'.out hW) hok hqc
  have hdo := fun h W (hW : Below w.heap.size w W) => s_l4Doms f _ n W (KM.mv hf'.out hW) hok h
  have hb00 : blkAt f 0 = f.blocks[0]'(by omega) := blkAt_nat f 0 (by omega)
  have hent : Hd (entryOk f = ((f.blocks[0]'(by omega)).phis.isEmpty && (predsOf f 0).isEmpty)) := ⟨by unfold entryOk; rw [hb00]⟩
  have hpl := preds_len f 0
  clear hW0 hB0 hok hqc hfo hb00
  generalize hR : checkF m f = R
  have hR' := Hd.mk hR
  clear hR
  go_enter Tryz.func75, Tryz.ntmps75
  go_wp2_with fail
  rw [← hW0'.out]
  have x3 := hzm.out
  have x0 := hzf.out 0 _ rfl
  have x1 := hzf.out 1 _ rfl
  have x2 := hzf.out 2 _ rfl
  go_wp2_with fail
  refine (hpr _ hB0'.out).mono ?_; rintro e w1 ⟨u1, rfl, ho1, hb1⟩
  obtain ⟨Aq, cq, rfl, -, -, -, -⟩ := own_shape ho1
  replace x3 := (bat hb1 (w.heap.size) (by omega) 0).trans x3
  replace x0 := (bat hb1 (w.heap.size + 1) (by omega) 0).trans x0
  replace x1 := (bat hb1 (w.heap.size + 1) (by omega) 1).trans x1
  replace x2 := (bat hb1 (w.heap.size + 1) (by omega) 2).trans x2
  have hc1 := Hd.mk hb1
  have hB1 := Hd.mk (hB0'.out.then hb1)
  have hz1 := hb1.size
  clear hb1 ho1 hpr
  obtain ⟨eb, eo, ecs, hA_, heb, ⟨bv1, bv2, rfl, hr_, hr2_⟩, hat_⟩ := (hb0.out).in0 (hB1.out) (0) (by omega)
  cases hA_
  have hew := Nat.lt_of_lt_of_le heb (hB1.out).size
  have g0 := hat_ 0 _ rfl
  have g1 := hat_ 1 _ rfl
  have g2 := hat_ 2 _ rfl
  have g3 := hat_ 3 _ rfl
  have g4 := hat_ 4 _ rfl
  have g5 := hat_ 5 _ rfl
  clear hat_
  simp at g0 g1 g2 g3 g4 g5
  obtain ⟨Ap, cp, rfl, hcp, hlp, hrp⟩ := hr_.sm
  obtain ⟨Ai, ci, rfl, hci, hli, hri⟩ := hr2_.sm
  clear hr_ hr2_
  generalize f.blocks[0] = x at *
  by_cases e1 : (predsOf f 0).length = 0
  rotate_left
  · have hv := hR'.out.symm.trans (checkF_2 (by rw [hent.out]; cases hq : predsOf f 0 with
      | nil => rw [hq] at e1; exact absurd rfl e1
      | cons a r => simp))
    subst hv
    have el : (0 : Int) < ((predsOf f 0).length : Int) := by omega
    go_wp2
    go_ret
    exact ⟨rfl, hB1.out⟩
  by_cases e2 : x.phis.length = 0
  rotate_left
  · have hv := hR'.out.symm.trans (checkF_2 (by rw [hent.out]; cases hq : x.phis with
      | nil => rw [hq] at e2; exact absurd rfl e2
      | cons a r => simp))
    subst hv
    have el : (0 : Int) < (x.phis.length : Int) := by omega
    rw [e1]
    go_wp2
    go_ret
    exact ⟨rfl, hB1.out⟩
  have hE : entryOk f = true := by
    rw [hent.out, List.length_eq_zero_iff.1 e1, List.length_eq_zero_iff.1 e2]; rfl
  rw [e1]
  rw [e2] at g0
  clear hent e1 e2 hpl
  go_wp2_with fail
  refine (hph _ hB1.out).mono ?_; rintro e w2 ⟨rfl, hb2⟩
  replace x3 := (bat hb2 (w.heap.size) (by omega) 0).trans x3
  replace x0 := (bat hb2 (w.heap.size + 1) (by omega) 0).trans x0
  replace x1 := (bat hb2 (w.heap.size + 1) (by omega) 1).trans x1
  replace x2 := (bat hb2 (w.heap.size + 1) (by omega) 2).trans x2
  have hB2 := Hd.mk (hB1.out.then hb2)
  have hz2 := hb2.size
  clear hb2
  cases h2 : phisOk f with
  | false =>
    have hv := hR'.out.symm.trans (checkF_3 hE h2)
    subst hv
    clear hE h2
    go_wp2
    go_ret
    exact ⟨rfl, hB2.out⟩
  | true =>
    go_wp2_with fail
    refine (hty _ hB2.out).mono ?_; rintro e w3 ⟨rfl, hb3⟩
    replace x3 := (bat hb3 (w.heap.size) (by omega) 0).trans x3
    replace x0 := (bat hb3 (w.heap.size + 1) (by omega) 0).trans x0
    replace x1 := (bat hb3 (w.heap.size + 1) (by omega) 1).trans x1
    replace x2 := (bat hb3 (w.heap.size + 1) (by omega) 2).trans x2
    have hB3 := Hd.mk (hB2.out.then hb3)
    have hz3 := hb3.size
    clear hb3
    cases h3 : typesOk f with
    | false =>
      have hv := hR'.out.symm.trans (checkF_4 hE h2 h3)
      subst hv
      clear hE h2 h3
      go_wp2
      go_ret
      exact ⟨rfl, hB3.out⟩
    | true =>
      go_wp2_with fail
      refine (hca _ hB3.out).mono ?_; rintro e w4 ⟨rfl, hb4⟩
      replace x3 := (bat hb4 (w.heap.size) (by omega) 0).trans x3
      replace x0 := (bat hb4 (w.heap.size + 1) (by omega) 0).trans x0
      replace x1 := (bat hb4 (w.heap.size + 1) (by omega) 1).trans x1
      replace x2 := (bat hb4 (w.heap.size + 1) (by omega) 2).trans x2
      have hB4 := Hd.mk (hB3.out.then hb4)
      have hz4 := hb4.size
      clear hb4
      cases h4 : callsOk m f with
      | false =>
        have hv := hR'.out.symm.trans (checkF_5 hE h2 h3 h4)
        subst hv
        clear hE h2 h3 h4
        go_wp2
        go_ret
        exact ⟨rfl, hB4.out⟩
      | true =>
        go_wp2_with fail
        refine (hdo h2 _ hB4.out).mono ?_; rintro e w5 ⟨rfl, hb5⟩
        replace x3 := (bat hb5 (w.heap.size) (by omega) 0).trans x3
        replace x0 := (bat hb5 (w.heap.size + 1) (by omega) 0).trans x0
        replace x1 := (bat hb5 (w.heap.size + 1) (by omega) 1).trans x1
        replace x2 := (bat hb5 (w.heap.size + 1) (by omega) 2).trans x2
        have hB5 := Hd.mk (hB4.out.then hb5)
        have hz5 := hb5.size
        clear hb5
        cases h5 : domsOk f with
        | false =>
          have hv := hR'.out.symm.trans (checkF_6 hE h2 h3 h4 h5)
          subst hv
          clear hE h2 h3 h4 h5
          go_wp2
          go_ret
          exact ⟨rfl, hB5.out⟩
        | true =>
          have hv := hR'.out.symm.trans (checkF_0 hE h2 h3 h4 h5)
          subst hv
          clear hE h2 h3 h4 h5
          go_wp2
          go_ret
          exact ⟨rfl, hB5.out⟩
set_option maxRecDepth 20000 in
set_option maxHeartbeats 4000000 in
theorem s_ShapeOk (m : XMod) (cm : List Value) (w : World) (hm : KMod lm w m cm) : Calls Tryz.prog 74 #[.agg cm.toArray] w (Ret (.bool (shapeOk m)) w) := by
  have hm' := Hd.mk hm
  obtain ⟨vm, rfl, hrm⟩ := hm
  obtain ⟨Am, cm, rfl, hcap, hlm, hm0⟩ := hrm.sm
  clear hrm
  have hbl := fun o => (Below.refl w.heap.size w).al (Nat.le_refl _) o
  obtain ⟨W0, hW0⟩ : ∃ W0 : World, W0 = (w.alloc (.cells #[.slice Am m.funcs.length cm] 38)) := ⟨_, rfl⟩
  have hB0 : Below w.heap.size w W0 := by rw [hW0]; exact hbl _
  have hz0 : W0.heap.size = w.heap.size + 1 := by rw [hW0]; simp
  have hmc : Hd (W0.cell? ⟨w.heap.size, 0, none⟩ = some (.slice Am m.funcs.length cm)) := ⟨by rw [hW0]; simp⟩
  have hW0' := Hd.mk hW0
  have hB0' := Hd.mk hB0
  have hin := fun W => s_l1In m.funcs.length 1 3 W
  clear hW0 hB0
  generalize hR : shapeOk m = R
  have hR' := Hd.mk hR
  clear hR
  unfold shapeOk at hR'
  go_enter Tryz.func74, Tryz.ntmps74
  go_wp2_with fail
  rw [← hW0'.out]
  have x0 := hmc.out
  go_wp2_with fail
  refine (hin _).mono ?_; rintro e w1 ⟨rfl, rfl⟩
  clear hin
  cases h1 : inR m.funcs.length 1 3 with
  | false =>
    rw [h1] at hR'
    have hv : false = R := hR'.out
    subst hv
    clear h1
    go_wp2
    go_ret
    exact ⟨rfl, hB0'.out⟩
  | true =>
    rw [h1, Bool.true_and] at hR'
    clear h1
    go_wp2
    go_loopw [3] (fun s3 wr => ∃ k : Nat, k ≤ m.funcs.length ∧ s3 = .int .i64 k ∧ Hd ((m.funcs.take k).all (fun f => funcOk f m.funcs.length) = true) ∧ Hd (Below W0.heap.size W0 wr)) (fun s3 _ => m.funcs.length - (intOf s3).toNat)
    case atStart => exact ⟨0, Nat.zero_le _, rfl, ⟨rfl⟩, ⟨Below.refl _ _⟩⟩
    case round =>
      obtain ⟨k, hk, rfl, hall, hbr⟩ := hrel
      obtain ⟨wo, rfl⟩ : ∃ wo : World, wo = wr := ⟨_, rfl⟩
      have hBw := Hd.mk (hB0'.out.then hbr.out)
      have hzo := hbr.out.size
      have y0 := (bat hbr.out w.heap.size (by omega) 0).trans hmc.out
      have y1 : w.heap.size < wo.heap.size := by omega
      clear x0
      by_cases hlt : k < m.funcs.length
      · obtain ⟨eb, eo, ecs, hA_, heb, ⟨fv1, fv2, rfl, hr_, hr2_⟩, hat_⟩ := (hm0.out).in0 (hBw.out) (k) (hlt)
        cases hA_
        have hew := Nat.lt_of_lt_of_le heb (hBw.out).size
        have g0 := hat_ 0 _ rfl
        have g1 := hat_ 1 _ rfl
        have g2 := hat_ 2 _ rfl
        clear hat_
        simp at g0 g1 g2
        obtain ⟨Af, cf, rfl, hcf, hlf, hrf⟩ := hr_.sm
        obtain ⟨Ab, cb, rfl, hcb, hlb, hrb⟩ := hr2_.sm
        clear hr_ hr2_
        have hsn := Hd.mk (all_take_snoc (fun f => funcOk f m.funcs.length) m.funcs k hlt)
        have hfl := fun h => Hd.mk (all_false_of (fun f => funcOk f m.funcs.length) m.funcs k hlt h)
        generalize m.funcs[k] = f at *
        have hck := fun W (hW : Below wo.heap.size wo W) => s_l2Func f [.slice Af f.params.length cf, .int .i64 f.ret, .slice Ab f.blocks.length cb] m.funcs.length W ⟨_, _, rfl, hrf.out.mv (hBw.out.then hW), hrb.out.mv (hBw.out.then hW)⟩ (by omega) (by omega)
        have eh0 : (0 : Int) ≤ (k : Int) := by omega
        have eh1 : (k : Int) < (m.funcs.length : Int) := by omega
        cases h4 : funcOk f m.funcs.length with
        | true =>
          have hall2 := Hd.mk (show (m.funcs.take (k + 1)).all (fun f => funcOk f m.funcs.length) = true by rw [hsn.out, hall.out, h4]; rfl)
          rw [h4] at hck
          clear hfl hsn h4
          go_wp2
          refine wp_region_bel (by kernel_rfl) (by kernel_rfl) ?_
          simp only [List.toList_toArray]
          repeat' first
            | (refine seq_val (by rfl) (by intro W hS; have s0 := (bat hS w.heap.size y1 0).trans y0; have s1 := (bat hS eb hew _).trans g0; have s2 := (bat hS eb hew _).trans g1; have s3 := (bat hS eb hew _).trans g2; go_simp; first | done | rfl) ?_; simp only [Act.put, List.setIfInBounds_toArray, List.set_cons_zero, List.set_cons_succ])
            | (refine seq_skip (by rfl) ?_; simp only [Act.put, List.setIfInBounds_toArray, List.set_cons_zero, List.set_cons_succ])
            | (refine seq_ret 99 _ (by rfl) (by intro W hS; have s0 := (bat hS w.heap.size y1 0).trans y0; have s1 := (bat hS eb hew _).trans g0; have s2 := (bat hS eb hew _).trans g1; have s3 := (bat hS eb hew _).trans g2; go_simp; first | done | rfl) (fun W hS => hck W hS) ?_; simp only [Act.put, List.setIfInBounds_toArray, List.set_cons_zero, List.set_cons_succ])
            | fail
          refine seq_nil (fun W hS => ?_)
          have s0 := (bat hS w.heap.size y1 0).trans y0
          have s1 := (bat hS eb hew _).trans g0
          have s2 := (bat hS eb hew _).trans g1
          have s3 := (bat hS eb hew _).trans g2
          go_wp2
          go_roundw
          case rel => exact ⟨k + 1, by omega, by go_num, hall2, ⟨hbr.out.then hS⟩⟩
          case measure => simp [intOf]; omega
        | false =>
          have hv := (hfl h4).out.symm.trans hR'.out
          subst hv
          rw [h4] at hck
          clear hfl hsn h4
          go_wp2
          refine wp_region_bel (by kernel_rfl) (by kernel_rfl) ?_
          simp only [List.toList_toArray]
          repeat' first
            | (refine seq_val (by rfl) (by intro W hS; have s0 := (bat hS w.heap.size y1 0).trans y0; have s1 := (bat hS eb hew _).trans g0; have s2 := (bat hS eb hew _).trans g1; have s3 := (bat hS eb hew _).trans g2; go_simp; first | done | rfl) ?_; simp only [Act.put, List.setIfInBounds_toArray, List.set_cons_zero, List.set_cons_succ])
            | (refine seq_skip (by rfl) ?_; simp only [Act.put, List.setIfInBounds_toArray, List.set_cons_zero, List.set_cons_succ])
            | (refine seq_ret 99 _ (by rfl) (by intro W hS; have s0 := (bat hS w.heap.size y1 0).trans y0; have s1 := (bat hS eb hew _).trans g0; have s2 := (bat hS eb hew _).trans g1; have s3 := (bat hS eb hew _).trans g2; go_simp; first | done | rfl) (fun W hS => hck W hS) ?_; simp only [Act.put, List.setIfInBounds_toArray, List.set_cons_zero, List.set_cons_succ])
            | fail
          refine seq_nil (fun W hS => ?_)
          have s0 := (bat hS w.heap.size y1 0).trans y0
          have s1 := (bat hS eb hew _).trans g0
          have s2 := (bat hS eb hew _).trans g1
          have s3 := (bat hS eb hew _).trans g2
          go_wp2
          go_ret
          exact ⟨rfl, hBw.out.then hS⟩
      · have e : k = m.funcs.length := by omega
        subst e
        rw [List.take_length] at hall
        have hv := hall.out.symm.trans hR'.out
        subst hv
        go_wp2
        go_ret
        exact ⟨rfl, hBw.out⟩
set_option maxRecDepth 20000 in
set_option maxHeartbeats 4000000 in
theorem s_Checked (m : XMod) (cm : List Value) (w : World) (hm : KMod lm w m cm) : Calls Tryz.prog 46 #[.agg cm.toArray] w (Ret (.int .i64 (checkM m)) w) := by
  have hm' := Hd.mk hm
  obtain ⟨vm, rfl, hrm⟩ := hm
  obtain ⟨Am, cm, rfl, hcap, hlm, hm0⟩ := hrm.sm
  clear hrm
  have hbl := fun o => (Below.refl w.heap.size w).al (Nat.le_refl _) o
  obtain ⟨W0, hW0⟩ : ∃ W0 : World, W0 = (w.alloc (.cells #[.slice Am m.funcs.length cm] 38)) := ⟨_, rfl⟩
  have hB0 : Below w.heap.size w W0 := by rw [hW0]; exact hbl _
  have hz0 : W0.heap.size = w.heap.size + 1 := by rw [hW0]; simp
  have hmc : Hd (W0.cell? ⟨w.heap.size, 0, none⟩ = some (.slice Am m.funcs.length cm)) := ⟨by rw [hW0]; simp⟩
  have hW0' := Hd.mk hW0
  have hB0' := Hd.mk hB0
  have hsh := fun W (hW : Below w.heap.size w W) => s_ShapeOk m _ W (KM.mv hm'.out hW)
  clear hW0 hB0
  generalize hR : checkM m = R
  have hR' := Hd.mk hR
  clear hR
  unfold checkM at hR'
  go_enter Tryz.func46, Tryz.ntmps46
  go_wp2_with fail
  rw [← hW0'.out]
  have x0 := hmc.out
  go_wp2_with fail
  refine (hsh _ hB0'.out).mono ?_; rintro e w1 ⟨rfl, hb1⟩
  replace x0 := (bat hb1 w.heap.size (by omega) 0).trans x0
  have hc1 := Hd.mk hb1
  have hz1 := hb1.size
  clear hb1 hsh
  cases h1 : shapeOk m with
  | false =>
    rw [h1] at hR'
    have hv : 1 = R := hR'.out
    subst hv
    clear h1
    go_wp2
    go_ret
    exact ⟨rfl, hB0'.out.then hc1.out⟩
  | true =>
    rw [h1] at hR'
    have hR2 : Hd (firstBad m m.funcs = R) := ⟨hR'.out⟩
    have hfo := Hd.mk (shape_parts h1).2
    have hqc := Hd.mk (shape_calls h1)
    clear h1 hR'
    go_wp2
    go_loopw [3] (fun s3 wr => ∃ k : Nat, k ≤ m.funcs.length ∧ s3 = .int .i64 k ∧ Hd (∀ j (h : j < m.funcs.length), j < k → checkF m m.funcs[j] = 0) ∧ Hd (Below W0.heap.size W0 wr)) (fun s3 _ => m.funcs.length - (intOf s3).toNat)
    case atStart => exact ⟨0, Nat.zero_le _, rfl, ⟨fun j _ h => absurd h (Nat.not_lt_zero _)⟩, hc1⟩
    case round =>
      obtain ⟨k, hk, rfl, hall, hbr⟩ := hrel
      obtain ⟨wo, rfl⟩ : ∃ wo : World, wo = wr := ⟨_, rfl⟩
      have hBw := Hd.mk (hB0'.out.then hbr.out)
      have hzo := hbr.out.size
      have y0 := (bat hbr.out w.heap.size (by omega) 0).trans hmc.out
      have y1 : w.heap.size < wo.heap.size := by omega
      clear x0
      by_cases hlt : k < m.funcs.length
      · obtain ⟨eb, eo, ecs, hA_, heb, ⟨fv1, fv2, rfl, hr_, hr2_⟩, hat_⟩ := (hm0.out).in0 (hBw.out) (k) (hlt)
        cases hA_
        have hew := Nat.lt_of_lt_of_le heb (hBw.out).size
        have g0 := hat_ 0 _ rfl
        have g1 := hat_ 1 _ rfl
        have g2 := hat_ 2 _ rfl
        clear hat_
        simp at g0 g1 g2
        obtain ⟨Af, cf, rfl, hcf, hlf, hrf⟩ := hr_.sm
        obtain ⟨Ab, cb, rfl, hcb, hlb, hrb⟩ := hr2_.sm
        clear hr_ hr2_
        have hhit := fun h => Hd.mk (firstBad_hit m m.funcs k hlt hall.out h)
        have hnxt := fun (h : checkF m m.funcs[k] = 0) => Hd.mk (show ∀ j (hj : j < m.funcs.length), j < k + 1 → checkF m m.funcs[j] = 0 from fun j hj hjk => by
          by_cases e : j = k
          · subst e; exact h
          · exact hall.out j hj (by omega))
        have hfo1 := Hd.mk (hfo.out m.funcs[k] (List.getElem_mem hlt))
        have hqc1 := Hd.mk (hqc.out m.funcs[k] (List.getElem_mem hlt))
        have hal : Hd (∀ o, Below wo.heap.size wo (wo.alloc o)) := ⟨fun o => (Below.refl wo.heap.size wo).al (Nat.le_refl _) o⟩
        generalize m.funcs[k] = f at *
        have hck := fun W (hW : Below wo.heap.size wo W) => s_l4Func m _ f [.slice Af f.params.length cf, .int .i64 f.ret, .slice Ab f.blocks.length cb] m.funcs.length W (KM.mv hm'.out (hBw.out.then hW)) ⟨_, _, rfl, hrf.out.mv (hBw.out.then hW), hrb.out.mv (hBw.out.then hW)⟩ hfo1.out hqc1.out
        have eh0 : (0 : Int) ≤ (k : Int) := by omega
        have eh1 : (k : Int) < (m.funcs.length : Int) := by omega
        by_cases h4 : checkF m f = 0
        · have hall2 := hnxt h4
          rw [h4] at hck
          clear hhit hnxt h4
          go_wp2
          refine wp_region_bel (by kernel_rfl) (by kernel_rfl) ?_
          simp only [List.toList_toArray]
          repeat' first
            | (refine seq_val (by rfl) (by intro W hS; have s0 := (bat hS w.heap.size y1 0).trans y0; have s1 := (bat hS eb hew _).trans g0; have s2 := (bat hS eb hew _).trans g1; have s3 := (bat hS eb hew _).trans g2; go_simp; first | done | rfl) ?_; simp only [Act.put, List.setIfInBounds_toArray, List.set_cons_zero, List.set_cons_succ])
            | (refine seq_skip (by rfl) ?_; simp only [Act.put, List.setIfInBounds_toArray, List.set_cons_zero, List.set_cons_succ])
            | (refine seq_ret 75 _ (by rfl) (by intro W hS; have s0 := (bat hS w.heap.size y1 0).trans y0; have s1 := (bat hS eb hew _).trans g0; have s2 := (bat hS eb hew _).trans g1; have s3 := (bat hS eb hew _).trans g2; go_simp; first | done | rfl) (fun W hS => hck W hS) ?_; simp only [Act.put, List.setIfInBounds_toArray, List.set_cons_zero, List.set_cons_succ])
            | fail
          refine seq_nil (fun W hS => ?_)
          have s0 := (bat hS w.heap.size y1 0).trans y0
          have s1 := (bat hS eb hew _).trans g0
          have s2 := (bat hS eb hew _).trans g1
          have s3 := (bat hS eb hew _).trans g2
          go_wp2
          go_roundw
          case rel => exact ⟨k + 1, by omega, by go_num, hall2, ⟨hbr.out.then hS⟩⟩
          case measure => simp [intOf]; omega
        · have hv := (hhit h4).out.symm.trans hR2.out
          clear hhit hnxt
          have d4 := beqF h4
          have d5 : (checkF m f != 0) = true := by simpa using h4
          generalize checkF m f = q at *
          subst hv
          clear h4
          go_wp2
          refine wp_region_bel (by kernel_rfl) (by kernel_rfl) ?_
          simp only [List.toList_toArray]
          repeat' first
            | (refine seq_val (by rfl) (by intro W hS; have s0 := (bat hS w.heap.size y1 0).trans y0; have s1 := (bat hS eb hew _).trans g0; have s2 := (bat hS eb hew _).trans g1; have s3 := (bat hS eb hew _).trans g2; go_simp; first | done | rfl) ?_; simp only [Act.put, List.setIfInBounds_toArray, List.set_cons_zero, List.set_cons_succ])
            | (refine seq_skip (by rfl) ?_; simp only [Act.put, List.setIfInBounds_toArray, List.set_cons_zero, List.set_cons_succ])
            | (refine seq_ret 75 _ (by rfl) (by intro W hS; have s0 := (bat hS w.heap.size y1 0).trans y0; have s1 := (bat hS eb hew _).trans g0; have s2 := (bat hS eb hew _).trans g1; have s3 := (bat hS eb hew _).trans g2; go_simp; first | done | rfl) (fun W hS => hck W hS) ?_; simp only [Act.put, List.setIfInBounds_toArray, List.set_cons_zero, List.set_cons_succ])
            | fail
          refine seq_nil (fun W hS => ?_)
          have s0 := (bat hS w.heap.size y1 0).trans y0
          have s1 := (bat hS eb hew _).trans g0
          have s2 := (bat hS eb hew _).trans g1
          have s3 := (bat hS eb hew _).trans g2
          go_wp2
          go_ret
          exact ⟨rfl, hBw.out.then hS⟩
      · have e : k = m.funcs.length := by omega
        subst e
        have hv := (firstBad_none m m.funcs fun j hj => hall.out j hj hj).symm.trans hR2.out
        subst hv
        go_wp2
        go_ret
        exact ⟨rfl, hBw.out⟩
end Go.Proofs.YtkcgejbnhpccdaaGreat
set_option linter.unusedSimpArgs false
set_option linter.unusedVariables false
namespace Go.Proofs.YtkcgejbnhpccdaaGreat
open Go.RowKit
set_option maxRecDepth 20000 in
set_option maxHeartbeats 8000000 in
theorem s_Invoked (m : XMod) (cs : List Value) (k : Int) (va : Value) (args : List Int) (mem : ByteArray) (fuel : Int) (w : World) (hm : KMod lm w m cs) (ha : RI lm w va args) (hms : mem.size ≤ 1048576) :
    Calls Tryz.prog 15 #[.agg cs.toArray, .int .i64 k, va, .string mem, .int .i64 fuel] w (RetRes (resR m k args mem fuel) w) := by
  have hm' := Hd.mk hm
  obtain ⟨vm, rfl, hrm⟩ := hm
  obtain ⟨Am, cm, rfl, hcap, hlm, hm0⟩ := hrm.sm
  have hck := fun W (hW : Below w.heap.size w W) => s_Checked m _ W (KM.mv hm'.out hW)
  have hwk := fun W => s_l1In k 0 ((m.funcs.length : Int) - 1) W
  have hwf := fun W => s_l1In fuel 0 2000 W
  have ha' := Hd.mk ha
  have hlr := fun (fn : Nat) h h32 hf hk hg W (hW : Below w.heap.size w W) => s_l7Run m _ k va args mem fn W (KM.mv hm'.out hW) h (ha'.out.mv hW) h32 hf hk hg
  obtain ⟨Av, cv, rfl, -, hlv, -⟩ := ha.sm
  have ewl : IntKind.i64.wrap ((m.funcs.length : Int) - 1) = (m.funcs.length : Int) - 1 := IntWalk.i64_in _ (by omega)
  clear hrm ha
  have hbl := fun o => (Below.refl w.heap.size w).al (Nat.le_refl _) o
  obtain ⟨W0, hW0⟩ : ∃ W0 : World, W0 = (w.alloc (.cells #[.slice Am m.funcs.length cm] 38)).alloc (.cells #[.int .i64 0, .int .i64 0, .slice none 0 0, .string ⟨#[]⟩, .int .i64 0] 40) := ⟨_, rfl⟩
  have hz0 : W0.heap.size = w.heap.size + 2 := by rw [hW0]; simp
  have hb0 : Below w.heap.size w W0 := by rw [hW0]; exact (hbl _).al (by first | (simp; done) | (simp; omega)) _
  have hmb' : Hd (W0.cell? ⟨w.heap.size, 0, none⟩ = some (.slice Am m.funcs.length cm)) := ⟨by rw [hW0]; simp⟩
  have hrb' : Hd (W0.heap[w.heap.size + 1]? = some (.cells #[.int .i64 0, .int .i64 0, .slice none 0 0, .string ⟨#[]⟩, .int .i64 0] 40 (0, 0))) := ⟨by rw [hW0]; exact heap_new _ _ _ _ (by simp)⟩
  have hb0' := Hd.mk hb0
  have hW0' := Hd.mk hW0
  have hzw1 : w.heap.size + 1 < W0.heap.size := by omega
  clear hb0 hW0 hbl hz0
  generalize hR : resR m k args mem fuel = R
  have hR' := Hd.mk hR
  clear hR
  unfold resR modOk at hR'
  go_enter Tryz.func15, Tryz.ntmps15
  go_wp2_with fail
  rw [← hW0'.out]
  have x0 := hmb'.out
  go_wp2_with fail
  refine (hck _ hb0'.out).mono ?_; rintro e w1 ⟨rfl, hb1⟩
  have hB1 := Hd.mk (hb0'.out.then hb1)
  have hb1' := Hd.mk hb1
  have hz1 := hb1.size
  obtain ⟨cr, fr⟩ := row_facts ((hb1.block _ hzw1).trans hrb'.out)
  have q0 := cr 0
  have q1 := cr 1
  have q2 := cr 2
  have q3 := cr 3
  have q4 := cr 4
  simp at q0 q1 q2 q3 q4
  clear cr
  replace x0 := (bat hb1 w.heap.size (by omega) 0).trans x0
  have x0' := Hd.mk x0
  clear hb1 hck
  by_cases hq : checkM m = 0
  rotate_left
  · replace hR' := Hd.mk (show res6 = R by rw [← hR'.out, beqF hq]; rfl)
    have d0 := bneT hq
    generalize checkM m = qq at *
    clear hq
    go_wp2
    refine bodyPost_ret (v := resV res6 (.slice none 0 0)) (by simp [results, Tryz.results15, go_sem, resV, res6, q0, q1, q2, q3, q4]) rfl ⟨_, by rw [← hR'.out], by rw [← hR'.out]; exact ownI_nil _ _, ?_⟩
    repeat (refine Below.setCell ?_ (by first | (simp; done) | (simp; omega)) _)
    exact hB1.out
  have hmo : modOk m = true := by unfold modOk; rw [hq]; rfl
  rw [hq] at hR' ⊢
  replace hR' := Hd.mk (show resI m k args mem fuel = R from hR'.out)
  unfold resI invOk at hR'
  have hmo' := Hd.mk hmo
  clear hq hmo
  have hzw2 : w.heap.size < w1.heap.size := by omega
  go_wp2_with fail
  refine (hwk _).mono ?_; rintro e w2 ⟨rfl, rfl⟩
  cases hq : inR k 0 ((m.funcs.length : Int) - 1)
  · replace hR' := Hd.mk (show res6 = R by rw [← hR'.out, hq]; rfl)
    clear hq
    go_wp2
    refine bodyPost_ret (v := resV res6 (.slice none 0 0)) (by simp [results, Tryz.results15, go_sem, resV, res6, q0, q1, q2, q3, q4]) rfl ⟨_, by rw [← hR'.out], by rw [← hR'.out]; exact ownI_nil _ _, ?_⟩
    repeat (refine Below.setCell ?_ (by first | (simp; done) | (simp; omega)) _)
    exact hB1.out
  rw [hq] at hR'
  simp only [Bool.true_and] at hR'
  have hk0 : 0 ≤ k ∧ k < m.funcs.length := by unfold inR at hq; simp at hq; omega
  have hki : k.toNat < m.funcs.length := by omega
  clear hq hwk
  have hgd : m.funcs.getD k.toNat func0 = m.funcs[k.toNat] := by rw [List.getD_eq_getElem?_getD, List.getElem?_eq_getElem hki]; rfl
  obtain ⟨eb, eo, ecs, hA_, heb, ⟨fv1, fv2, rfl, hr_, hr2_⟩, hat_⟩ := (hm0.out).in0 (hB1.out) (k.toNat) (hki)
  cases hA_
  have hew := Nat.lt_of_lt_of_le heb (hB1.out).size
  have g0 := hat_ 0 _ rfl
  have g1 := hat_ 1 _ rfl
  have g2 := hat_ 2 _ rfl
  clear hat_
  simp at g0 g1 g2
  obtain ⟨Af, cf, rfl, hcf, hlf, hrf⟩ := hr_.sm
  obtain ⟨Ab, cb, rfl, hcb, hlb, hrb⟩ := hr2_.sm
  clear hr_ hr2_
  rw [hgd] at hR'
  have hgd' := Hd.mk hgd
  have hlr' := fun (fn : Nat) h32 hf hg W hW => hlr fn hmo'.out h32 hf hk0 hg W hW
  rw [hgd] at hlr'
  clear hgd hlr
  generalize m.funcs[k.toNat] = f at *
  have har := fun W (hW : Below w.heap.size w W) => s_l7Args _ (.slice Av args.length cv) (.slice Ab f.blocks.length cb) f.ret f.params args W (hrf.out.mv hW) (ha'.out.mv hW)
  obtain ⟨hk1, hk2⟩ := hk0
  go_wp2_with fail
  refine (har _ hB1.out).mono ?_; rintro e w2 ⟨rfl, hb2⟩
  have hB2 := Hd.mk (hB1.out.then hb2)
  have hb2' := Hd.mk (hb1'.out.then hb2)
  have hz2 := hb2.size
  have x2 := (bat hb2 w.heap.size hzw2 0).trans x0
  clear q0 q1 q2 q3 q4 fr hb2 x0
  obtain ⟨cr, fr⟩ := row_facts ((hb2'.out.block _ hzw1).trans hrb'.out)
  have q0 := cr 0
  have q1 := cr 1
  have q2 := cr 2
  have q3 := cr 3
  have q4 := cr 4
  simp at q0 q1 q2 q3 q4
  clear cr
  clear g0 g1 g2 har
  cases hq : argsOk f.params args
  · replace hR' := Hd.mk (show res6 = R by rw [← hR'.out, hq]; rfl)
    clear hq
    go_wp2
    refine bodyPost_ret (v := resV res6 (.slice none 0 0)) (by simp [results, Tryz.results15, go_sem, resV, res6, q0, q1, q2, q3, q4]) rfl ⟨_, by rw [← hR'.out], by rw [← hR'.out]; exact ownI_nil _ _, ?_⟩
    repeat (refine Below.setCell ?_ (by first | (simp; done) | (simp; omega)) _)
    exact hB2.out
  rw [hq] at hR'
  simp only [Bool.true_and] at hR'
  have hargs := Hd.mk hq
  clear hq
  by_cases h32 : mem.size = 32
  rotate_left
  · have d : ((mem.size : Int) != 32) = true := by simp; omega
    have d2 : (mem.size == 32) = false := by simpa using h32
    replace hR' := Hd.mk (show res6 = R by rw [← hR'.out, d2]; rfl)
    go_wp2
    refine bodyPost_ret (v := resV res6 (.slice none 0 0)) (by simp [results, Tryz.results15, go_sem, resV, res6, q0, q1, q2, q3, q4]) rfl ⟨_, by rw [← hR'.out], by rw [← hR'.out]; exact ownI_nil _ _, ?_⟩
    repeat (refine Below.setCell ?_ (by first | (simp; done) | (simp; omega)) _)
    exact hB2.out
  have d : ((mem.size : Int) != 32) = false := by simp; omega
  have d2 : (mem.size == 32) = true := by simpa using h32
  rw [d2] at hR'
  simp only [Bool.true_and] at hR'
  clear d2
  cases hq : inR fuel 0 2000
  · rw [hq] at hwf
    replace hR' := Hd.mk (show res6 = R by rw [← hR'.out, hq]; rfl)
    clear hq
    go_wp2_with fail
    refine (hwf _).mono ?_; rintro e w3 ⟨rfl, rfl⟩
    go_wp2
    refine bodyPost_ret (v := resV res6 (.slice none 0 0)) (by simp [results, Tryz.results15, go_sem, resV, res6, q0, q1, q2, q3, q4]) rfl ⟨_, by rw [← hR'.out], by rw [← hR'.out]; exact ownI_nil _ _, ?_⟩
    repeat (refine Below.setCell ?_ (by first | (simp; done) | (simp; omega)) _)
    exact hB2.out
  rw [hq] at hR' hwf
  rw [if_pos rfl] at hR'
  have hfu : 0 ≤ fuel ∧ fuel ≤ 2000 := by unfold inR at hq; simpa using hq
  clear hq
  obtain ⟨fn, rfl⟩ : ∃ fn : Nat, fuel = fn := ⟨fuel.toNat, by omega⟩
  rw [Int.toNat_natCast] at hR'
  have hrun := hlr' fn h32 (by omega) hargs.out w2 hB2.out
  rw [hR'.out] at hrun
  clear hlr' q0 q1 q2 q3 q4 fr
  have hzw3 : w.heap.size < w2.heap.size := by omega
  go_wp2_with fail
  refine (hwf _).mono ?_; rintro e w3 ⟨rfl, rfl⟩
  clear hwf
  go_wp2_with fail
  refine hrun.mono ?_; rintro e w3 ⟨v3, rfl, hown, hb3⟩
  have hB3 := Hd.mk (hB2.out.then hb3)
  obtain ⟨cr, fr⟩ := row_facts ((hb3.block _ (by omega)).trans ((hb2'.out.block _ hzw1).trans hrb'.out))
  have q0 := cr 0
  have q1 := cr 1
  have q2 := cr 2
  have q3 := cr 3
  have q4 := cr 4
  simp at q0 q1 q2 q3 q4
  clear cr
  have hz3 := hb3.size
  have hown' := Hd.mk (And.intro hown (show w.heap.size + 1 < w2.heap.size by omega))
  obtain ⟨A3, c3, rfl, -, -⟩ := own_shape hown
  clear hb3 hown hrun x2
  unfold resV
  go_wp2
  refine bodyPost_ret (v := resV R (.slice A3 R.out.length c3)) (by simp [results, Tryz.results15, go_sem, resV, q0, q1, q2, q3, q4]) rfl ⟨_, rfl, ?_, ?_⟩
  · refine own_lower (base := w2.heap.size) ?_ (by have := hown'.out.2; omega)
    repeat (refine own_far ?_ (by have := hown'.out.2; omega))
    exact hown'.out.1
  · repeat (refine Below.setCell ?_ (by first | (simp; done) | (simp; omega)) _)
    exact hB3.out
end Go.Proofs.YtkcgejbnhpccdaaGreat
set_option linter.unusedSimpArgs false
set_option linter.unusedVariables false
namespace Go.Proofs.YtkcgejbnhpccdaaGreat
open Go.RowKit
set_option maxRecDepth 20000 in
set_option maxHeartbeats 8000000 in
theorem c_Invoked (m : XMod) (cs : List Value) (k : Int) (va : Value) (args : List Int) (mem : ByteArray) (fuel : Int) (w : World) (hm : KMod lm w m cs) (ha : RI lm w va args) (hms : mem.size ≤ 1048576) :
    Calls Tryz.prog 14 #[.agg cs.toArray, .int .i64 k, va, .string mem, .int .i64 fuel] w (RetRes (resR m k args mem fuel) w) := by
  have hm' := Hd.mk hm
  have ha' := Hd.mk ha
  obtain ⟨vm, rfl, hrm⟩ := hm
  obtain ⟨Am, cm, rfl, -, -, -⟩ := hrm.sm
  have hck := fun W (hW : Below w.heap.size w W) => c_isOk m _ W (KM.mv hm'.out hW)
  have hin := fun h W (hW : Below w.heap.size w W) => c_invoked m _ k va args mem fuel W (KM.mv hm'.out hW) h (ha'.out.mv hW) hms
  clear hrm ha
  have hbl := fun o => (Below.refl w.heap.size w).al (Nat.le_refl _) o
  obtain ⟨W0, hW0⟩ : ∃ W0 : World, W0 = (w.alloc (.cells #[.slice Am m.funcs.length cm] 38)).alloc (.cells #[.int .i64 0, .int .i64 0, .slice none 0 0, .string ⟨#[]⟩, .int .i64 0] 40) := ⟨_, rfl⟩
  have hz0 : W0.heap.size = w.heap.size + 2 := by rw [hW0]; simp
  have hb0 : Below w.heap.size w W0 := by rw [hW0]; exact (hbl _).al (by first | (simp; done) | (simp; omega)) _
  have hmb : Hd (W0.cell? ⟨w.heap.size, 0, none⟩ = some (.slice Am m.funcs.length cm)) := ⟨by rw [hW0]; simp⟩
  have hrb : Hd (W0.heap[w.heap.size + 1]? = some (.cells #[.int .i64 0, .int .i64 0, .slice none 0 0, .string ⟨#[]⟩, .int .i64 0] 40 (0, 0))) := ⟨by rw [hW0]; exact heap_new _ _ _ _ (by simp)⟩
  have hb0' := Hd.mk hb0
  have hW0' := Hd.mk hW0
  have hz0' := Hd.mk hz0
  have hzw : w.heap.size + 1 < W0.heap.size := by omega
  clear hb0 hW0 hbl hz0
  generalize hR : resR m k args mem fuel = R
  have hR' := Hd.mk hR
  clear hR
  unfold resR at hR'
  go_enter Tryz.func14, Tryz.ntmps14
  go_wp2_with fail
  rw [← hW0'.out]
  have x0 := hmb.out
  go_wp2_with fail
  refine (hck _ hb0'.out).mono ?_; rintro e w1 ⟨rfl, hb1⟩
  have hB1 := Hd.mk (hb0'.out.then hb1)
  have hb1' := Hd.mk hb1
  have hz1 := hb1.size
  obtain ⟨cr, fr⟩ := row_facts ((hb1.block _ hzw).trans hrb.out)
  have q0 := cr 0
  have q1 := cr 1
  have q2 := cr 2
  have q3 := cr 3
  have q4 := cr 4
  simp at q0 q1 q2 q3 q4
  replace x0 := (bat hb1 w.heap.size (by omega) 0).trans x0
  clear cr hb1 hck
  cases hq : modOk m with
  | false =>
    rw [hq] at hR'
    have hv : Hd (res6 = R) := ⟨hR'.out⟩
    clear hq
    go_wp2
    refine bodyPost_ret (v := resV res6 (.slice none 0 0)) (by simp [results, Tryz.results14, go_sem, resV, res6, q0, q1, q2, q3, q4]) rfl ⟨_, by rw [← hv.out], by rw [← hv.out]; exact ownI_nil _ _, ?_⟩
    repeat (refine Below.setCell ?_ (by first | (simp; done) | (simp; omega)) _)
    exact hB1.out
  | true =>
    rw [hq, if_pos rfl] at hR'
    have hiv := hin hq
    clear hq hin q0 q1 q2 q3 q4 fr
    rw [hR'.out] at hiv
    go_wp2_with fail
    refine (hiv _ hB1.out).mono ?_; rintro e w2 ⟨v2, rfl, hown, hb2⟩
    have hB2 := Hd.mk (hB1.out.then hb2)
    obtain ⟨cr, fr⟩ := row_facts ((hb2.block _ (by omega)).trans ((hb1'.out.block _ hzw).trans hrb.out))
    have q0 := cr 0
    have q1 := cr 1
    have q2 := cr 2
    have q3 := cr 3
    have q4 := cr 4
    simp at q0 q1 q2 q3 q4
    have hz2 := hb2.size
    have hown' := Hd.mk (And.intro hown (show w.heap.size + 1 < w1.heap.size by omega))
    obtain ⟨A2, c2, rfl, -, -⟩ := own_shape hown
    clear cr hb2 hown hiv x0
    unfold resV
    go_wp2
    refine bodyPost_ret (v := resV R (.slice A2 R.out.length c2)) (by simp [results, Tryz.results14, go_sem, resV, q0, q1, q2, q3, q4]) rfl ⟨_, rfl, ?_, ?_⟩
    · refine own_lower (base := w1.heap.size) ?_ (by have := hown'.out.2; omega)
      repeat (refine own_far ?_ (by have := hown'.out.2; omega))
      exact hown'.out.1
    · repeat (refine Below.setCell ?_ (by first | (simp; done) | (simp; omega)) _)
      exact hB2.out
end Go.Proofs.YtkcgejbnhpccdaaGreat
set_option linter.unusedSimpArgs false
set_option linter.unusedVariables false
namespace Go.Proofs.YtkcgejbnhpccdaaGreat
open Go.RowKit
def RetT5 (w : World) (e : Ending) (w' : World) : Prop := e = .returned (.bool true) ∧ Below w.heap.size w w'
theorem OwI.cells5 {lo : Nat} {w : World} {v : Value} {xs : List Int} (h : w.ownsRow lo 2 1 v xs.length (xs.map (Value.int .i64))) : ∃ A c, v = .slice A xs.length c ∧ Wr w A xs.length ∧ (0 < xs.length → ∃ G, A = some ⟨G, 0, none⟩ ∧ lo ≤ G ∧ G < w.heap.size) := by
  obtain ⟨h1, h2⟩ := h
  rcases h2 with ⟨rfl, h3⟩ | ⟨g, cap, cur, rfl, h5, h6, h7, h8, h9, h10⟩
  · exact ⟨none, 0, by rw [h3], fun h => absurd h (by omega), fun h => absurd h (by omega)⟩
  · refine ⟨_, _, rfl, fun _ => ⟨g, cur, _, rfl, h6, fun i hi => ⟨xs[i], ?_⟩⟩, fun _ => ⟨g, rfl, h5, (Array.getElem?_eq_some_iff.1 h6).1⟩⟩
    have : (cur.toList.take (xs.length * 1))[i]? = (xs.map (Value.int .i64))[i]? := by rw [h10]
    rw [List.getElem?_take_of_lt (by omega)] at this
    simpa [hi] using this
theorem row_ri5 {lo : Nat} {w : World} {v : Value} {xs : List Int} (h : w.ownsRow lo 2 1 v xs.length (xs.map (Value.int .i64))) (hl : xs.length ≤ 1048576) : RI lm w v xs := OwI.rd (OwI.of h) hl
theorem e_same5 {v u : Value} {xs : List Int} {w : World} (hv : RI lm w v xs) (hu : RI lm w u xs) : Calls Tryz.prog 33 #[v, u] w (Ret (.bool true) w) := by
  have h := e_I v u xs xs w hv hu
  rwa [decide_eq_true rfl] at h
theorem undrew5 {w w' : World} (h : Below w.drew.heap.size w.drew w') : Below w.heap.size w w' := ⟨h.os, h.tape, h.output, h.size, h.block⟩
theorem redrew5 {B : Nat} {w w' : World} (h : Below B w w') : Below B w w'.drew := ⟨h.os, h.tape, h.output, h.size, h.block⟩
theorem below_marks {B : Nat} {a W0 : World} (A : Option Addr) (n : Nat) (k : Int) {h : Nat} (hb : Below B a W0) (hG : n = 0 ∨ ∃ G, A = some ⟨G, 0, none⟩ ∧ B ≤ G ∧ G < h) : Below B a (setAll W0 (gblk A) 0 (marks k n)) := by
  rcases hG with rfl | ⟨G, rfl, h1, -⟩
  · exact hb
  · exact below_setAll _ h1 _ hb
theorem far_marks {B b : Nat} (A : Option Addr) (n : Nat) (k : Int) (W0 : World) (o : Nat) (hG : n = 0 ∨ ∃ G, A = some ⟨G, 0, none⟩ ∧ B ≤ G ∧ G < b) : (setAll W0 (gblk A) 0 (marks k n)).cell? ⟨b, o, none⟩ = W0.cell? ⟨b, o, none⟩ := by
  rcases hG with rfl | ⟨G, rfl, -, h1⟩
  · rfl
  · simp only [World.cell?]
    have hh := setAll_other (G := G) (b := b) (marks k n) (by omega) W0 0
    rw [show gblk (some ⟨G, 0, none⟩) = G from rfl, hh]
theorem KRes.mv' {w w' : World} {x : XRes} {cs : List Value} (h : KRes w x cs) (hb : Below w.heap.size w w') : KRes w' x cs := by
  obtain ⟨v, rfl, r⟩ := h; exact ⟨v, rfl, r.mv hb⟩
set_option maxRecDepth 20000 in
set_option maxHeartbeats 4000000 in
theorem f_ExactInvoked (x : XMod) (cs : List Value) (kk : Int) (va : Value) (args : List Int) (mem : ByteArray) (fuel : Int) (w : World) (hx : KMod lw w x cs) (ha : RI lw w va args) : Calls Tryz.prog 10 #[.agg cs.toArray, .int .i64 kk, va, .string mem, .int .i64 fuel] w (RetT5 w) := by
  have hbl := fun o => (Below.refl w.heap.size w).al (Nat.le_refl _) o
  have hz := fun W hW => z_Mod x cs 1048576 W (KM.mv hx hW) (by omega) (by omega)
  obtain ⟨Aa, ca, rfl, -, la, -⟩ := ha.sw
  by_cases g1 : (args.length : Int) > 1048576
  · have d1 : decide ((args.length : Int) > 1048576) = true := by simpa using g1
    obtain ⟨v1, rfl, -⟩ := hx
    clear hz
    go_enter Tryz.func10, Tryz.ntmps10
    go_wp2
    go_ret
    exact ⟨rfl, hbl _⟩
  have la' : args.length ≤ lm := by show _ ≤ 1048576; omega
  have d1 : decide ((args.length : Int) > 1048576) = false := by simpa using g1
  by_cases g2 : (mem.size : Int) > 1048576
  · have d2 : decide ((mem.size : Int) > 1048576) = true := by simpa using g2
    obtain ⟨v1, rfl, -⟩ := hx
    clear hz
    go_enter Tryz.func10, Tryz.ntmps10
    go_wp2
    go_ret
    exact ⟨rfl, hbl _⟩
  have d2 : decide ((mem.size : Int) > 1048576) = false := by simpa using g2
  rcases sub_cases 1048576 (wMod x) (by omega) with ⟨e, h⟩ | ⟨e, h, h'⟩
  · rw [e] at hz
    obtain ⟨v1, rfl, -⟩ := hx
    clear e
    go_enter Tryz.func10, Tryz.ntmps10
    go_wp2_with fail
    refine (hz _ (hbl _)).mono ?_; rintro e w1 ⟨rfl, hb1⟩
    go_wp2
    go_ret
    exact ⟨rfl, (hbl _).then hb1⟩
  have hw : wMod x ≤ lm := by show _ ≤ 1048576; omega
  rw [e] at hz
  clear e
  have hx' := nar_mod hx hw
  have ht := fun W (hW : Below w.heap.size w W) => t_Mod x cs W (KM.mv hx' hW)
  have ha' : RI lm w (.slice Aa args.length ca) args := ha.nar la' fun _ _ _ hk => hk
  have hta := fun W (hW : Below w.heap.size w W) => t_I (.slice Aa args.length ca) args W (ha'.mv hW)
  have hms : mem.size ≤ 1048576 := by omega
  have hro := resR_out x kk args mem fuel
  have hsM := fun W cs va hp ha => s_Invoked x cs kk va args mem fuel W hp ha hms
  have hcM := fun W cs va hp ha => c_Invoked x cs kk va args mem fuel W hp ha hms
  generalize resR x kk args mem fuel = R at *
  obtain ⟨v1, rfl, r1⟩ := hx
  obtain ⟨A1, c1, rfl, -, -, -⟩ := r1.sh
  clear hx' r1 ha ha'
  go_enter Tryz.func10, Tryz.ntmps10
  go_wp2_with fail
  refine (hz _ (hbl _)).mono ?_; rintro e w0 ⟨rfl, hb0⟩
  have hB0 := (hbl _).then hb0
  have g0 := bat hb0 w.heap.size (by first | (simp; done) | (simp; omega))
  have hz0 := hb0.size
  simp at g0 hz0
  clear hb0 hz
  have hneg : decide ((1048576 : Int) - wMod x < 0) = false := by simp; omega
  go_wp2_with fail
  refine (ht _ hB0).mono ?_; rintro e w1 ⟨cs1, rfl, ho1, hb1⟩
  have hk1 := o_mod ho1 hw
  obtain ⟨u1, rfl, p1⟩ := ho1
  clear p1
  have hB1 := hB0.then hb1
  go_wp2_with fail
  refine (hta _ hB1).mono ?_; rintro e w2 ⟨va2, rfl, ho2, hb2⟩
  have hk2 : RI lm w2 va2 args := OwI.rd ho2 la'
  clear ho2
  go_wp2_with fail
  refine (hsM _ _ _ (KM.mv hk1 hb2) hk2).mono ?_; rintro e w3 ⟨V0, rfl, hV0, hb3⟩
  have hB3 := (hB1.then hb2).then hb3
  unfold resV
  have hv3 : KRes w3 R [.int .i64 R.code, .int .i64 R.value, V0, .string R.mem, .int .i64 R.steps] := res_K hV0 hro
  obtain ⟨Aw, cw, rfl, -⟩ := own_shape hV0
  clear hk1 hk2 hV0
  have g0_3 := fun o => (bat ((hb1.then hb2).then hb3) w.heap.size (by omega) o).trans (g0 o)
  have a0_3 := g0_3 0
  simp at a0_3
  clear g0_3
  have hz3 : w.heap.size < w3.heap.size := Nat.le_trans hz0 ((hb1.then hb2).then hb3).size
  have hbx3 := fun o => (Below.refl w3.heap.size w3).al (Nat.le_refl _) o
  go_wp2_with fail
  refine (ht _ (hB3.then (hbx3 _))).mono ?_; rintro e w4 ⟨cs4, rfl, ho4, hb4⟩
  have hk4 := o_mod ho4 hw
  have hs4 := so_mod ho4 hw
  obtain ⟨v41, rfl, p1⟩ := ho4
  obtain ⟨D1, d1, rfl, -⟩ := own_sw p1
  clear p1
  have z4 := hb4.size
  have h34 := (hbx3 _).then hb4
  have r0_4 := bat hb4 w3.heap.size (by first | (simp; done) | (simp; omega)) 0
  have r1_4 := bat hb4 w3.heap.size (by first | (simp; done) | (simp; omega)) 1
  have r2_4 := bat hb4 w3.heap.size (by first | (simp; done) | (simp; omega)) 2
  have r3_4 := bat hb4 w3.heap.size (by first | (simp; done) | (simp; omega)) 3
  have r4_4 := bat hb4 w3.heap.size (by first | (simp; done) | (simp; omega)) 4
  simp at r0_4 r1_4 r2_4 r3_4 r4_4 z4 hs4
  have a0_4 := (bat h34 w.heap.size (by omega) 0).trans a0_3
  clear hb4
  have hbx4 := fun o => (Below.refl w4.heap.size w4).al (Nat.le_refl _) o
  go_wp2_with fail
  refine (hta _ ((hB3.then h34).then (hbx4 _))).mono ?_; rintro e w5 ⟨va5, rfl, ho5, hb5⟩
  have hk5 : RI lm w5 va5 args := OwI.rd ho5 la'
  have hs5 := OwI.sl ho5 la'
  obtain ⟨D5, d5, rfl, -⟩ := own_sw ho5
  clear ho5
  have z5 := hb5.size
  have h45 := (hbx4 _).then hb5
  have x0_5 := bat hb5 w4.heap.size (by first | (simp; done) | (simp; omega)) 0
  simp at x0_5 z5 hs5
  clear hb5
  go_wp2_with fail
  refine (hcM _ _ _ (KM.mv hk4 h45) hk5).mono ?_; rintro e w6 ⟨V6, rfl, hV6, hb6⟩
  unfold resV
  have hv6 : KRes w6 R [.int .i64 R.code, .int .i64 R.value, V6, .string R.mem, .int .i64 R.steps] := res_K hV6 hro
  obtain ⟨Ag, cg, rfl, -, -⟩ := OwI.cells5 hV6
  have z6 := hb6.size
  have h46 := h45.then hb6
  have h36 := h34.then h46
  have hbx6 := fun o => (Below.refl w6.heap.size w6).al (Nat.le_refl _) o
  have r0_6 := (bat h46 w3.heap.size (by omega) 0).trans r0_4
  have r1_6 := (bat h46 w3.heap.size (by omega) 1).trans r1_4
  have r2_6 := (bat h46 w3.heap.size (by omega) 2).trans r2_4
  have r3_6 := (bat h46 w3.heap.size (by omega) 3).trans r3_4
  have r4_6 := (bat h46 w3.heap.size (by omega) 4).trans r4_4
  have z36 : w3.heap.size < w6.heap.size := by omega
  have z46 : w4.heap.size < w6.heap.size := by omega
  have zw6 : w.heap.size < w6.heap.size := by omega
  go_wp2_with fail
  refine (e_Res R R _ _ _ (hv6.mv' (hbx6 _)) (hv3.mv' (h36.then (hbx6 _)))).mono ?_; rintro e w7 ⟨rfl, hb7⟩
  rw [decide_eq_true rfl]
  have h67 := (hbx6 _).then hb7
  have y0_7 := bat hb7 w6.heap.size (by first | (simp; done) | (simp; omega)) 0
  have y1_7 := bat hb7 w6.heap.size (by first | (simp; done) | (simp; omega)) 1
  have y2_7 := bat hb7 w6.heap.size (by first | (simp; done) | (simp; omega)) 2
  have y3_7 := bat hb7 w6.heap.size (by first | (simp; done) | (simp; omega)) 3
  have y4_7 := bat hb7 w6.heap.size (by first | (simp; done) | (simp; omega)) 4
  have z7 := hb7.size
  simp at y0_7 y1_7 y2_7 y3_7 y4_7 z7
  have h47 := h46.then h67
  have h37 := h34.then h47
  have a0_7 := (bat h37 w.heap.size (by omega) 0).trans a0_3
  have h57 := hb6.then h67
  have x0_7 := (bat h57 w4.heap.size (by omega) 0).trans x0_5
  clear hb7 hb6
  have hC7 := redrew5 (hB3.then h37)
  have hk4' := fun W hW => KM.mv hk4 (h47.then (w2 := W) hW)
  go_wp2_with fail
  go_region_held3 (fun W => W.cell? ⟨w.heap.size, 0, none⟩ = some (.slice A1 x.funcs.length c1) ∧ W.cell? ⟨w4.heap.size, 0, none⟩ = some (.slice D1 x.funcs.length d1))
    (first | exact ⟨a0_7, x0_7⟩ | exact ⟨a0_8, x0_8⟩ | exact ⟨a0_9, x0_9⟩)
    (first
      | (go_at_call 29
         refine (ht _ hC7).mono ?_; rintro e w8 ⟨cs8, rfl, ho8, hb8⟩
         replace hb8 := undrew5 hb8
         have hk8 := o_mod ho8 hw
         obtain ⟨t1, rfl, p1⟩ := ho8
         obtain ⟨E1, e1, rfl, -⟩ := own_sw p1
         clear p1
         have z8 := hb8.size
         have a0_8 := (bat hb8 w.heap.size (by omega) 0).trans a0_7
         have x0_8 := (bat hb8 w4.heap.size (by omega) 0).trans x0_7
         have he := e_Mod x x _ _ w8 (hk4' _ hb8) hk8
         rw [decide_eq_true rfl] at he)
      | (go_at_call 32
         refine he.mono ?_; rintro e w9 ⟨rfl, hb9⟩
         have a0_9 := (bat hb9 w.heap.size (by omega) 0).trans a0_8
         have x0_9 := (bat hb9 w4.heap.size (by omega) 0).trans x0_8))
  have h79 := hb8.then hb9
  clear he hk8 hk4 hk4'
  have h49 := h47.then h79
  have h39 := h34.then h49
  have h69 := h67.then h79
  have h59 := h57.then h79
  have z9 := h79.size
  have hB9 := hB3.then h39
  go_wp2_with fail
  refine (hta _ hB9).mono ?_; rintro e w10 ⟨va10, rfl, ho10, hb10⟩
  have hk10 : RI lm w10 va10 args := OwI.rd ho10 la'
  clear ho10
  go_wp2_with fail
  refine (e_same5 (hk5.mv (h59.then hb10)) hk10).mono ?_; rintro e w11 ⟨rfl, hb11⟩
  have h911 := hb10.then hb11
  clear hk10 hk5 hb10 hb11
  have h411 := h49.then h911
  have h311 := h39.then h911
  have h611 := h69.then h911
  have h711 := h79.then h911
  have h511 := h59.then h911
  have z11 := h911.size
  have x0_11 := (bat h911 w4.heap.size (by omega) 0).trans x0_9
  have hmp := mMod_le x
  have hq1 : mMod x ≤ 7340032 := by omega
  clear hmp
  go_wp2_with fail
  refine (m_Mod (w3.heap.size + 1) w4.heap.size x [_] 1 w11 (by omega) (by omega) (SMod.mv hs4 (Chg.of_below (hi := 0) z4 h411)) (by omega) (by omega)).mono ?_; rintro e w12 ⟨rfl, hc12⟩
  generalize hM1 : (mMod x : Int) = M1 at *
  have hM1a : 0 ≤ M1 := by omega
  have hM1b : M1 ≤ 7340032 := by omega
  clear hM1 hq1
  go_wp2_with fail
  refine (m_S (w4.heap.size + 1) w5.heap.size (.slice D5 args.length d5) args (1 + M1) w12 ((hs5.mv (Chg.of_below (hi := 0) z5 h511)).mv hc12) (by omega) (by omega)).mono ?_; rintro e w13 ⟨rfl, hc13⟩
  have z12 := hc12.size
  have z13 := hc13.size
  have h313 : Below w3.heap.size w3 w13 := (h311.trans (hc12.below.mono (by omega))).trans (hc13.below.mono (by omega))
  have hG13 := own_abv (own_abv (own_mv hV6 h611) (by omega) hc12.abv) (Nat.le_refl _) hc13.abv
  have hv13 : KRes w13 R [.int .i64 R.code, .int .i64 R.value, .slice Ag R.out.length cg, .string R.mem, .int .i64 R.steps] := res_K hG13 hro
  have gy := fun o => ((hc13.cellAt w6.heap.size (by omega) (.inr (by omega)) o).trans (hc12.cellAt w6.heap.size (by omega) (.inr (by omega)) o)).trans (bat h711 w6.heap.size (by omega) o)
  have y0_13 := (gy 0).trans y0_7
  have y1_13 := (gy 1).trans y1_7
  have y2_13 := (gy 2).trans y2_7
  have y3_13 := (gy 3).trans y3_7
  have y4_13 := (gy 4).trans y4_7
  have gr := fun o => ((hc13.cellAt w3.heap.size (by omega) (.inl (by omega)) o).trans (hc12.cellAt w3.heap.size (by omega) (.inl (by omega)) o)).trans (bat h411 w3.heap.size (by omega) o)
  have r0_13 := (gr 0).trans r0_4
  have r1_13 := (gr 1).trans r1_4
  have r2_13 := (gr 2).trans r2_4
  have r3_13 := (gr 3).trans r3_4
  have r4_13 := (gr 4).trans r4_4
  have hneg13 : decide ((1 : Int) + M1 + (args.length : Int) < 0) = false := by simp; omega
  clear gy gr hc12 hc13
  go_wp2_with fail
  refine (e_Res R R _ _ _ hv13 (hv3.mv' h313)).mono ?_; rintro e w14 ⟨rfl, hb14⟩
  rw [decide_eq_true rfl]
  have h314 := h313.then hb14
  have hG14 := own_mv hG13 hb14
  have z14 := hb14.size
  have y0_14 := (bat hb14 w6.heap.size (by omega) 0).trans y0_13
  have y1_14 := (bat hb14 w6.heap.size (by omega) 1).trans y1_13
  have y2_14 := (bat hb14 w6.heap.size (by omega) 2).trans y2_13
  have y3_14 := (bat hb14 w6.heap.size (by omega) 3).trans y3_13
  have y4_14 := (bat hb14 w6.heap.size (by omega) 4).trans y4_13
  have r0_14 := (bat hb14 w3.heap.size (by omega) 0).trans r0_13
  have r1_14 := (bat hb14 w3.heap.size (by omega) 1).trans r1_13
  have r2_14 := (bat hb14 w3.heap.size (by omega) 2).trans r2_13
  have r3_14 := (bat hb14 w3.heap.size (by omega) 3).trans r3_13
  have r4_14 := (bat hb14 w3.heap.size (by omega) 4).trans r4_13
  have hwr : ∀ W, Below w14.heap.size w14 W → Wr W Ag R.out.length := fun W hW => by
    obtain ⟨A', c', hv, hh, -⟩ := OwI.cells5 (own_mv hG14 hW)
    cases hv
    exact hh
  have hGb : R.out.length = 0 ∨ ∃ G, Ag = some ⟨G, 0, none⟩ ∧ w5.heap.size ≤ G ∧ G < w6.heap.size := by
    obtain ⟨A', c', hv, -, hh⟩ := OwI.cells5 hV6
    cases hv
    by_cases h0 : R.out.length = 0
    · exact .inl h0
    · exact .inr (hh (by omega))
  clear hV6 hG13 hG14 hv13
  go_wp2_with fail
  refine (m_Res R Ag R.out.length cg 1 w14 hro hwr (by omega) (by omega)).mono ?_; rintro e w15 ⟨rfl, W0, hW0, hw15⟩
  have hld := (hwr W0 hW0).held 1
  rw [← hw15] at hld
  have h515 : Below w5.heap.size w14 w15 := by rw [hw15]; exact below_marks Ag _ _ (hW0.mono (by omega)) hGb
  have gy : ∀ o, w15.cell? ⟨w6.heap.size, o, none⟩ = w14.cell? ⟨w6.heap.size, o, none⟩ := fun o => by
    rw [hw15]; exact (far_marks Ag _ _ W0 o hGb).trans (bat hW0 w6.heap.size (by omega) o)
  have y0_15 := (gy 0).trans y0_14
  have y1_15 := (gy 1).trans y1_14
  have y2_15 := (gy 2).trans y2_14
  have y3_15 := (gy 3).trans y3_14
  have y4_15 := (gy 4).trans y4_14
  have r0_15 := (bat h515 w3.heap.size (by omega) 0).trans r0_14
  have r1_15 := (bat h515 w3.heap.size (by omega) 1).trans r1_14
  have r2_15 := (bat h515 w3.heap.size (by omega) 2).trans r2_14
  have r3_15 := (bat h515 w3.heap.size (by omega) 3).trans r3_14
  have r4_15 := (bat h515 w3.heap.size (by omega) 4).trans r4_14
  have h315 : Below w3.heap.size w3 w15 := h314.trans (h515.mono (by omega))
  have z15 := h515.size
  clear gy hwr hw15 hW0
  go_wp2_with fail
  refine (h_Res R Ag R.out.length cg 1 w15 hro hld (by omega) (by omega)).mono ?_; rintro e w16 ⟨rfl, hb16⟩
  have z16 := hb16.size
  have h316 := h315.then hb16
  have hld16 := hld.mv hb16
  have y0_16 := (bat hb16 w6.heap.size (by omega) 0).trans y0_15
  have y1_16 := (bat hb16 w6.heap.size (by omega) 1).trans y1_15
  have y2_16 := (bat hb16 w6.heap.size (by omega) 2).trans y2_15
  have y3_16 := (bat hb16 w6.heap.size (by omega) 3).trans y3_15
  have y4_16 := (bat hb16 w6.heap.size (by omega) 4).trans y4_15
  have r0_16 := (bat hb16 w3.heap.size (by omega) 0).trans r0_15
  have r1_16 := (bat hb16 w3.heap.size (by omega) 1).trans r1_15
  have r2_16 := (bat hb16 w3.heap.size (by omega) 2).trans r2_15
  have r3_16 := (bat hb16 w3.heap.size (by omega) 3).trans r3_15
  have r4_16 := (bat hb16 w3.heap.size (by omega) 4).trans r4_15
  have a0_16 := (bat h316 w.heap.size (by omega) 0).trans a0_3
  have q0 : decide ((1 : Int) + (R.out.length : Int) < 0) = false := by simp; omega
  have q1 : ((1 + (R.out.length : Int)) != (1 + (R.out.length : Int))) = false := by simp
  have hB16 := hB3.then h316
  clear hld
  go_wp2_with fail
  refine (ht _ hB16).mono ?_; rintro e w17 ⟨cs17, rfl, ho17, hb17⟩
  have hk17 := o_mod ho17 hw
  obtain ⟨t1, rfl, p1⟩ := ho17
  clear p1
  go_wp2_with fail
  refine (hta _ (hB16.then hb17)).mono ?_; rintro e w18 ⟨va18, rfl, ho18, hb18⟩
  have hk18 : RI lm w18 va18 args := OwI.rd ho18 la'
  clear ho18
  go_wp2_with fail
  refine (hcM _ _ _ (KM.mv hk17 hb18) hk18).mono ?_; rintro e w19 ⟨V19, rfl, hV19, hb19⟩
  unfold resV
  have hv19 : KRes w19 R [.int .i64 R.code, .int .i64 R.value, V19, .string R.mem, .int .i64 R.steps] := res_K hV19 hro
  obtain ⟨Ah, ch, rfl, -, -⟩ := OwI.cells5 hV19
  have h1619 := (hb17.then hb18).then hb19
  have z19 := h1619.size
  have hbx19 := fun o => (Below.refl w19.heap.size w19).al (Nat.le_refl _) o
  have z319 : w3.heap.size < w19.heap.size := by omega
  have z619 : w6.heap.size < w19.heap.size := by omega
  have r0_19 := (bat h1619 w3.heap.size (by omega) 0).trans r0_16
  have r1_19 := (bat h1619 w3.heap.size (by omega) 1).trans r1_16
  have r2_19 := (bat h1619 w3.heap.size (by omega) 2).trans r2_16
  have r3_19 := (bat h1619 w3.heap.size (by omega) 3).trans r3_16
  have r4_19 := (bat h1619 w3.heap.size (by omega) 4).trans r4_16
  go_wp2_with fail
  refine (e_Res R R _ _ _ (hv19.mv' (hbx19 _)) (hv3.mv' ((h316.then h1619).then (hbx19 _)))).mono ?_; rintro e w20 ⟨rfl, hb20⟩
  rw [decide_eq_true rfl]
  have h1620 := h1619.then ((hbx19 _).then hb20)
  have y0_20 := (bat h1620 w6.heap.size (by omega) 0).trans y0_16
  have y1_20 := (bat h1620 w6.heap.size (by omega) 1).trans y1_16
  have y2_20 := (bat h1620 w6.heap.size (by omega) 2).trans y2_16
  have y3_20 := (bat h1620 w6.heap.size (by omega) 3).trans y3_16
  have y4_20 := (bat h1620 w6.heap.size (by omega) 4).trans y4_16
  go_wp2_with fail
  refine (h_Res R Ag R.out.length cg 1 w20 hro (hld16.mv h1620) (by omega) (by omega)).mono ?_; rintro e w21 ⟨rfl, hb21⟩
  go_wp2
  go_ret
  exact ⟨rfl, (hB16.then h1620).then hb21⟩
end Go.Proofs.YtkcgejbnhpccdaaGreat
