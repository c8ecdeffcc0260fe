import Derived.Test.YtkcgejbnhpccdaaGreatT50
import Derived.Test.YtkcgejbnhpccdaaGreatT10
set_option linter.unusedSimpArgs false
set_option linter.unusedVariables false
namespace Go.Proofs.YtkcgejbnhpccdaaGreat
open Go.RowKit
def bis (f : Nat → Bool) (low high c : Nat) : Nat × Nat :=
  if low + 1 < high then (if f ((low + high) / 2) then bis f ((low + high) / 2) high (c + 1) else bis f low ((low + high) / 2) (c + 1)) else (high, c)
termination_by high - low
decreasing_by all_goals omega
theorem bis_end (f : Nat → Bool) (low high c : Nat) (h : ¬ low + 1 < high) : bis f low high c = (high, c) := by rw [bis, if_neg h]
theorem bis_up (f : Nat → Bool) (low high c : Nat) (h : low + 1 < high) (hf : f ((low + high) / 2) = true) : bis f low high c = bis f ((low + high) / 2) high (c + 1) := by rw [bis, if_pos h, if_pos hf]
theorem bis_dn (f : Nat → Bool) (low high c : Nat) (h : low + 1 < high) (hf : f ((low + high) / 2) = false) : bis f low high c = bis f low ((low + high) / 2) (c + 1) := by rw [bis, if_pos h, if_neg (by simp [hf])]
def fbF (l : List XMod) (o : XOra) (k : Nat) : Bool := match l[k]? with
  | some m => holdsB m o
  | none => false
theorem fbF_at (l : List XMod) (o : XOra) (k : Nat) (h : k < l.length) : fbF l o k = holdsB l[k] o := by unfold fbF; rw [List.getElem?_eq_getElem h]
def fbN (f : Nat → Bool) (n : Nat) : Int × Int :=
  if inR n 2 100 = false then (-1, 1) else if f 0 = false then (-1, 1) else if f (n - 1) = true then (-1, 2) else (((bis f 0 (n - 1) 2).1 : Int), ((bis f 0 (n - 1) 2).2 : Int))
def fbR (l : List XMod) (o : XOra) : Int × Int := fbN (fbF l o) l.length
def Ret2 (p : Int × Int) (w : World) (e : Ending) (w' : World) : Prop := e = .returned (.tuple #[.int .i64 p.1, .int .i64 p.2]) ∧ Below w.heap.size w w'
theorem bis_said (f : Nat → Bool) : ∀ (d low high c : Nat), high - low ≤ d → low < high → f low = true → f high = false →
    low < (bis f low high c).1 ∧ (bis f low high c).1 ≤ high ∧ f (bis f low high c).1 = false ∧ f ((bis f low high c).1 - 1) = true ∧ ∀ j, high - low ≤ 2 ^ j → (bis f low high c).2 ≤ c + j
  | 0, low, high, c, hd, h, _, _ => absurd hd (by omega)
  | d + 1, low, high, c, hd, h, hl, hh => by
    by_cases hlt : low + 1 < high
    · cases hf : f ((low + high) / 2) with
      | true =>
        rw [bis_up f low high c hlt hf]
        obtain ⟨h1, h2, h3, h4, h5⟩ := bis_said f d ((low + high) / 2) high (c + 1) (by omega) (by omega) hf hh
        refine ⟨by omega, h2, h3, h4, fun j hj => ?_⟩
        cases j with
        | zero => simp at hj; omega
        | succ j =>
          have := h5 j (by rw [Nat.pow_succ] at hj; omega)
          omega
      | false =>
        rw [bis_dn f low high c hlt hf]
        obtain ⟨h1, h2, h3, h4, h5⟩ := bis_said f d low ((low + high) / 2) (c + 1) (by omega) (by omega) hl hf
        refine ⟨h1, by omega, h3, h4, fun j hj => ?_⟩
        cases j with
        | zero => simp at hj; omega
        | succ j =>
          have := h5 j (by rw [Nat.pow_succ] at hj; omega)
          omega
    · rw [bis_end f low high c hlt]
      exact ⟨h, Nat.le_refl _, hh, by rw [show high - 1 = low by omega]; exact hl, fun j _ => Nat.le_add_right _ _⟩
theorem fb_said (f : Nat → Bool) (n : Nat) (h : 0 ≤ (fbN f n).1) : ∃ r c : Nat, fbN f n = ((r : Int), (c : Int)) ∧ 0 < r ∧ r < n ∧ f r = false ∧ f (r - 1) = true ∧ ∀ j, n - 1 ≤ 2 ^ j → c ≤ 2 + j := by
  unfold fbN at h ⊢
  split at h
  · exact absurd h (by decide)
  split at h
  · exact absurd h (by decide)
  split at h
  · exact absurd h (by decide)
  rename_i h1 h2 h3
  rw [if_neg h1, if_neg h2, if_neg h3]
  simp [inR] at h1 h2 h3
  obtain ⟨k1, k2, k3, k4, k5⟩ := bis_said f (n - 1) 0 (n - 1) 2 (by omega) (by omega) h2 h3
  exact ⟨_, _, rfl, k1, by omega, k3, k4, fun j hj => k5 j (by omega)⟩
theorem fb_lin (f : Nat → Bool) (n first : Nat) (hn : n ≤ 100) (h1 : first ≤ n) (hf : ∀ k, k < n → f k = decide (k < first)) : (first = 0 ∨ first = n ∨ n < 2 → (fbN f n).1 = -1) ∧ (¬ (first = 0 ∨ first = n ∨ n < 2) → (fbN f n).1 = first) := by
  unfold fbN
  by_cases h2 : n < 2
  · rw [if_pos (by simp [inR]; omega)]
    exact ⟨fun _ => rfl, fun h => absurd (.inr (.inr h2)) h⟩
  rw [if_neg (by simp [inR]; omega)]
  have f0 := hf 0 (by omega)
  have fn := hf (n - 1) (by omega)
  by_cases hz : first = 0
  · rw [if_pos (by rw [f0]; simp; omega)]
    exact ⟨fun _ => rfl, fun h => absurd (.inl hz) h⟩
  rw [if_neg (by rw [f0]; simp; omega)]
  by_cases hl : first = n
  · rw [if_pos (by rw [fn]; simp; omega)]
    exact ⟨fun _ => rfl, fun h => absurd (.inr (.inl hl)) h⟩
  rw [if_neg (by rw [fn]; simp; omega)]
  refine ⟨fun h => by omega, fun _ => ?_⟩
  obtain ⟨k1, k2, k3, k4, -⟩ := bis_said f (n - 1) 0 (n - 1) 2 (by omega) (by omega) (by rw [f0]; simp; omega) (by rw [fn]; simp; omega)
  generalize (bis f 0 (n - 1) 2).1 = r at *
  rw [hf r (by omega)] at k3
  rw [hf (r - 1) (by omega)] at k4
  simp at k3 k4
  show (r : Int) = first
  omega
set_option maxRecDepth 20000 in
set_option maxHeartbeats 8000000 in
theorem s_FirstBad (v : Value) (l : List XMod) (o : XOra) (co : List Value) (w : World) (hv : Rd lm 1 (KMod lm) w v l) (ho : KOracle lm w o co) (hms : o.mem.size ≤ 1048576) : Calls Tryz.prog 27 #[v, .agg co.toArray] w (Ret2 (fbR l o) w) := by
  have ho' := Hd.mk ho
  have hH := fun k (hk : k < l.length) W (cs : List Value) (hW : Below w.heap.size w W) (hm : KMod lm W (l[k]'hk) cs) => (show Calls Tryz.prog 23 #[.agg cs.toArray, .agg co.toArray] W (Ret (.bool (fbF l o k)) W) by rw [fbF_at l o k hk]; exact s_Holds (l[k]'hk) cs o co W hm (KM.mv ho'.out hW) hms)
  have hin := fun n a b W => Same.ret (s_l1In n a b W)
  obtain ⟨A, c, rfl, -, hl, hv0⟩ := hv.sm
  clear hv
  obtain ⟨va, vo, rfl, ra, ro⟩ := ho
  obtain ⟨Aa, ca, rfl, -, -, -⟩ := ra.sm
  obtain ⟨Ao, coo, rfl, -, -, -⟩ := ro.sm
  clear ra ro
  unfold fbR
  generalize hf : fbF l o = f at *
  have hH' := Hd.mk hH
  clear hH hf
  obtain ⟨of, oa, om, ⟨oc, ov, oo, omm, os⟩⟩ := o
  simp only at *
  obtain ⟨n, hn⟩ : ∃ n, n = l.length := ⟨_, rfl⟩
  rw [← hn]
  rw [← hn] at hl
  have hn' := Hd.mk hn
  clear hn
  obtain ⟨W0, hW0⟩ : ∃ W0 : World, W0 = w.alloc (.cells #[Value.int .i64 of, .slice Aa oa.length ca, .string om, .int .i64 oc, .int .i64 ov, .slice Ao oo.length coo, .string omm, .int .i64 os] 48) := ⟨_, rfl⟩
  have hB0 : Hd (Below w.heap.size w W0) := ⟨by rw [hW0]; exact (Below.refl w.heap.size w).al (Nat.le_refl _) _⟩
  have hz0 : w.heap.size < W0.heap.size := by rw [hW0]; simp
  have hzo : Hd (∀ j u, [Value.int .i64 of, .slice Aa oa.length ca, .string om, .int .i64 oc, .int .i64 ov, .slice Ao oo.length coo, .string omm, .int .i64 os][j]? = some u → W0.cell? ⟨w.heap.size, j, none⟩ = some u) := ⟨fun j u hu => by rw [hW0]; exact new_cell _ _ _ (by simp) j u (by simpa using hu)⟩
  have y0 := hzo.out 0 _ rfl
  have y1 := hzo.out 1 _ rfl
  have y2 := hzo.out 2 _ rfl
  have y3 := hzo.out 3 _ rfl
  have y4 := hzo.out 4 _ rfl
  have y5 := hzo.out 5 _ rfl
  have y6 := hzo.out 6 _ rfl
  have y7 := hzo.out 7 _ rfl
  have hW0' := Hd.mk hW0
  clear hW0
  unfold fbN
  cases hi : inR (n : Int) 2 100 with
  | false =>
    have hin0 := fun W => hin (n : Int) 2 100 W
    rw [hi] at hin0
    rw [if_pos rfl]
    clear hin hH' hi
    go_enter Tryz.func27, Tryz.ntmps27
    go_wp2
    rw [← hW0'.out]
    refine wp_region_bel (by kernel_rfl) (by kernel_rfl) ?_
    simp only [List.toList_toArray]
    repeat' first
      | (refine seq_val (by rfl) (by intro W hS; go_simp; first | done | rfl) ?_; simp only [Act.put, List.setIfInBounds_toArray, List.set_cons_zero, List.set_cons_succ])
      | (refine seq_skip (by rfl) ?_; simp only [Act.put, List.setIfInBounds_toArray, List.set_cons_zero, List.set_cons_succ])
      | (refine seq_ret 47 _ (by rfl) (by intro W hS; go_simp; first | done | rfl) (fun W hS => hin0 W) ?_; simp only [Act.put, List.setIfInBounds_toArray, List.set_cons_zero, List.set_cons_succ])
      | fail
    refine seq_nil (fun W hS => ?_)
    go_wp2
    go_ret2
    exact ⟨rfl, hB0.out.then hS⟩
  | true =>
    have hin0 := fun W => hin (n : Int) 2 100 W
    rw [hi] at hin0
    rw [if_neg (by simp)]
    have hn2 : 2 ≤ n ∧ n ≤ 100 := by unfold inR at hi; simp at hi; omega
    obtain ⟨hn2a, hn2b⟩ := hn2
    obtain ⟨p, rfl⟩ : ∃ p, n = p + 1 := ⟨n - 1, by omega⟩
    clear hin hi
    rw [show p + 1 - 1 = p by omega]
    obtain ⟨b0, off0, cs0, hA0, hlb0, hk0, hat0⟩ := hv0.out.in0 (Below.refl _ _) (0) (by have := hn'.out; omega)
    have hh0 := Hd.mk (fun W (hW : Below w.heap.size w W) => hH'.out (0) (by have := hn'.out; omega) W _ hW (KM.mv hk0 hW))
    obtain ⟨vm0, rfl, rm0⟩ := hk0
    obtain ⟨Am0, cm0, rfl, -, -, -⟩ := rm0.sm
    have g0 := hat0 0 _ rfl
    simp at g0
    clear hat0 rm0
    cases hA0
    obtain ⟨bp, offp, csp, hAp, hlbp, hkp, hatp⟩ := hv0.out.in0 (Below.refl _ _) (p) (by have := hn'.out; omega)
    have hhp := Hd.mk (fun W (hW : Below w.heap.size w W) => hH'.out (p) (by have := hn'.out; omega) W _ hW (KM.mv hkp hW))
    obtain ⟨vmp, rfl, rmp⟩ := hkp
    obtain ⟨Amp, cmp, rfl, -, -, -⟩ := rmp.sm
    have gp := hatp 0 _ rfl
    simp at gp
    clear hatp rmp
    cases hAp
    have ip0 : (0 : Int) ≤ (p : Int) := by omega
    have ip1 : (p : Int) < (p : Int) + 1 := by omega
    have ip2 : p < p + 1 := by omega
    have hwp : IntKind.i64.wrap (p : Int) = p := IntWalk.i64_in _ (by omega)
    have hwp1 : IntKind.i64.wrap ((p : Int) + 1 - 1) = p := by rw [IntWalk.i64_in _ (by omega)]; omega
    cases h0 : f 0 with
    | false =>
      rw [if_pos rfl]
      have hh0' := hh0.out
      rw [h0] at hh0'
      clear hhp gp h0
      go_enter Tryz.func27, Tryz.ntmps27
      go_wp2
      rw [← hW0'.out]
      refine wp_region_bel (by kernel_rfl) (by kernel_rfl) ?_
      simp only [List.toList_toArray]
      repeat' first
        | (refine seq_val (by rfl) (by intro W hS; have s0 := (bat hS w.heap.size hz0 0).trans y0; have s1 := (bat hS w.heap.size hz0 1).trans y1; have s2 := (bat hS w.heap.size hz0 2).trans y2; have s3 := (bat hS w.heap.size hz0 3).trans y3; have s4 := (bat hS w.heap.size hz0 4).trans y4; have s5 := (bat hS w.heap.size hz0 5).trans y5; have s6 := (bat hS w.heap.size hz0 6).trans y6; have s7 := (bat hS w.heap.size hz0 7).trans y7; have t0 := (bat (hB0.out.then hS) _ hlb0 _).trans g0; go_simp; first | done | rfl) ?_; simp only [Act.put, List.setIfInBounds_toArray, List.set_cons_zero, List.set_cons_succ])
        | (refine seq_skip (by rfl) ?_; simp only [Act.put, List.setIfInBounds_toArray, List.set_cons_zero, List.set_cons_succ])
        | (refine seq_ret 47 _ (by rfl) (by intro W hS; have s0 := (bat hS w.heap.size hz0 0).trans y0; have s1 := (bat hS w.heap.size hz0 1).trans y1; have s2 := (bat hS w.heap.size hz0 2).trans y2; have s3 := (bat hS w.heap.size hz0 3).trans y3; have s4 := (bat hS w.heap.size hz0 4).trans y4; have s5 := (bat hS w.heap.size hz0 5).trans y5; have s6 := (bat hS w.heap.size hz0 6).trans y6; have s7 := (bat hS w.heap.size hz0 7).trans y7; have t0 := (bat (hB0.out.then hS) _ hlb0 _).trans g0; go_simp; first | done | rfl) (fun W hS => hin0 W) ?_; simp only [Act.put, List.setIfInBounds_toArray, List.set_cons_zero, List.set_cons_succ])
        | (refine seq_ret 23 _ (by rfl) (by intro W hS; have s0 := (bat hS w.heap.size hz0 0).trans y0; have s1 := (bat hS w.heap.size hz0 1).trans y1; have s2 := (bat hS w.heap.size hz0 2).trans y2; have s3 := (bat hS w.heap.size hz0 3).trans y3; have s4 := (bat hS w.heap.size hz0 4).trans y4; have s5 := (bat hS w.heap.size hz0 5).trans y5; have s6 := (bat hS w.heap.size hz0 6).trans y6; have s7 := (bat hS w.heap.size hz0 7).trans y7; have t0 := (bat (hB0.out.then hS) _ hlb0 _).trans g0; go_simp; first | done | rfl) (fun W hS => hh0' W (hB0.out.then hS)) ?_; simp only [Act.put, List.setIfInBounds_toArray, List.set_cons_zero, List.set_cons_succ])
        | fail
      refine seq_nil (fun W hS => ?_)
      have s0 := (bat hS w.heap.size hz0 0).trans y0
      have s1 := (bat hS w.heap.size hz0 1).trans y1
      have s2 := (bat hS w.heap.size hz0 2).trans y2
      have s3 := (bat hS w.heap.size hz0 3).trans y3
      have s4 := (bat hS w.heap.size hz0 4).trans y4
      have s5 := (bat hS w.heap.size hz0 5).trans y5
      have s6 := (bat hS w.heap.size hz0 6).trans y6
      have s7 := (bat hS w.heap.size hz0 7).trans y7
      have t0 := (bat (hB0.out.then hS) _ hlb0 _).trans g0
      go_wp2
      go_ret2
      exact ⟨rfl, hB0.out.then hS⟩
    | true =>
      rw [if_neg (by simp)]
      have hh0' := hh0.out
      rw [h0] at hh0'
      clear h0
      cases hp : f p with
      | true =>
        rw [if_pos rfl]
        have hhp' := hhp.out
        rw [hp] at hhp'
        clear hp
        go_enter Tryz.func27, Tryz.ntmps27
        go_wp2
        rw [← hW0'.out]
        refine wp_region_bel (by kernel_rfl) (by kernel_rfl) ?_
        simp only [List.toList_toArray]
        repeat' first
          | (refine seq_val (by rfl) (by intro W hS; have s0 := (bat hS w.heap.size hz0 0).trans y0; have s1 := (bat hS w.heap.size hz0 1).trans y1; have s2 := (bat hS w.heap.size hz0 2).trans y2; have s3 := (bat hS w.heap.size hz0 3).trans y3; have s4 := (bat hS w.heap.size hz0 4).trans y4; have s5 := (bat hS w.heap.size hz0 5).trans y5; have s6 := (bat hS w.heap.size hz0 6).trans y6; have s7 := (bat hS w.heap.size hz0 7).trans y7; have t0 := (bat (hB0.out.then hS) _ hlb0 _).trans g0; go_simp; first | done | rfl) ?_; simp only [Act.put, List.setIfInBounds_toArray, List.set_cons_zero, List.set_cons_succ])
          | (refine seq_skip (by rfl) ?_; simp only [Act.put, List.setIfInBounds_toArray, List.set_cons_zero, List.set_cons_succ])
          | (refine seq_ret 47 _ (by rfl) (by intro W hS; have s0 := (bat hS w.heap.size hz0 0).trans y0; have s1 := (bat hS w.heap.size hz0 1).trans y1; have s2 := (bat hS w.heap.size hz0 2).trans y2; have s3 := (bat hS w.heap.size hz0 3).trans y3; have s4 := (bat hS w.heap.size hz0 4).trans y4; have s5 := (bat hS w.heap.size hz0 5).trans y5; have s6 := (bat hS w.heap.size hz0 6).trans y6; have s7 := (bat hS w.heap.size hz0 7).trans y7; have t0 := (bat (hB0.out.then hS) _ hlb0 _).trans g0; go_simp; first | done | rfl) (fun W hS => hin0 W) ?_; simp only [Act.put, List.setIfInBounds_toArray, List.set_cons_zero, List.set_cons_succ])
          | (refine seq_ret 23 _ (by rfl) (by intro W hS; have s0 := (bat hS w.heap.size hz0 0).trans y0; have s1 := (bat hS w.heap.size hz0 1).trans y1; have s2 := (bat hS w.heap.size hz0 2).trans y2; have s3 := (bat hS w.heap.size hz0 3).trans y3; have s4 := (bat hS w.heap.size hz0 4).trans y4; have s5 := (bat hS w.heap.size hz0 5).trans y5; have s6 := (bat hS w.heap.size hz0 6).trans y6; have s7 := (bat hS w.heap.size hz0 7).trans y7; have t0 := (bat (hB0.out.then hS) _ hlb0 _).trans g0; go_simp; first | done | rfl) (fun W hS => hh0' W (hB0.out.then hS)) ?_; simp only [Act.put, List.setIfInBounds_toArray, List.set_cons_zero, List.set_cons_succ])
          | fail
        refine seq_nil (fun W hS => ?_)
        have s0 := (bat hS w.heap.size hz0 0).trans y0
        have s1 := (bat hS w.heap.size hz0 1).trans y1
        have s2 := (bat hS w.heap.size hz0 2).trans y2
        have s3 := (bat hS w.heap.size hz0 3).trans y3
        have s4 := (bat hS w.heap.size hz0 4).trans y4
        have s5 := (bat hS w.heap.size hz0 5).trans y5
        have s6 := (bat hS w.heap.size hz0 6).trans y6
        have s7 := (bat hS w.heap.size hz0 7).trans y7
        have t0 := (bat (hB0.out.then hS) _ hlb0 _).trans g0
        have hS1 := Hd.mk hS
        have hB1 := Hd.mk (hB0.out.then hS)
        clear hS s0 s1 s2 s3 s4 s5 s6 s7 t0
        go_wp2
        refine wp_region_bel (by kernel_rfl) (by kernel_rfl) ?_
        simp only [List.toList_toArray]
        repeat' first
          | (refine seq_val (by rfl) (by intro W hS; have s0 := (bat (hS1.out.then hS) w.heap.size hz0 0).trans y0; have s1 := (bat (hS1.out.then hS) w.heap.size hz0 1).trans y1; have s2 := (bat (hS1.out.then hS) w.heap.size hz0 2).trans y2; have s3 := (bat (hS1.out.then hS) w.heap.size hz0 3).trans y3; have s4 := (bat (hS1.out.then hS) w.heap.size hz0 4).trans y4; have s5 := (bat (hS1.out.then hS) w.heap.size hz0 5).trans y5; have s6 := (bat (hS1.out.then hS) w.heap.size hz0 6).trans y6; have s7 := (bat (hS1.out.then hS) w.heap.size hz0 7).trans y7; have t0 := (bat (hB1.out.then hS) _ hlbp _).trans gp; go_simp; first | done | rfl) ?_; simp only [Act.put, List.setIfInBounds_toArray, List.set_cons_zero, List.set_cons_succ])
          | (refine seq_skip (by rfl) ?_; simp only [Act.put, List.setIfInBounds_toArray, List.set_cons_zero, List.set_cons_succ])
          | (refine seq_ret 23 _ (by rfl) (by intro W hS; have s0 := (bat (hS1.out.then hS) w.heap.size hz0 0).trans y0; have s1 := (bat (hS1.out.then hS) w.heap.size hz0 1).trans y1; have s2 := (bat (hS1.out.then hS) w.heap.size hz0 2).trans y2; have s3 := (bat (hS1.out.then hS) w.heap.size hz0 3).trans y3; have s4 := (bat (hS1.out.then hS) w.heap.size hz0 4).trans y4; have s5 := (bat (hS1.out.then hS) w.heap.size hz0 5).trans y5; have s6 := (bat (hS1.out.then hS) w.heap.size hz0 6).trans y6; have s7 := (bat (hS1.out.then hS) w.heap.size hz0 7).trans y7; have t0 := (bat (hB1.out.then hS) _ hlbp _).trans gp; go_simp; first | done | rfl) (fun W hS => hhp' W (hB1.out.then hS)) ?_; simp only [Act.put, List.setIfInBounds_toArray, List.set_cons_zero, List.set_cons_succ])
          | fail
        refine seq_nil (fun W hS => ?_)
        have s0 := (bat (hS1.out.then hS) w.heap.size hz0 0).trans y0
        have s1 := (bat (hS1.out.then hS) w.heap.size hz0 1).trans y1
        have s2 := (bat (hS1.out.then hS) w.heap.size hz0 2).trans y2
        have s3 := (bat (hS1.out.then hS) w.heap.size hz0 3).trans y3
        have s4 := (bat (hS1.out.then hS) w.heap.size hz0 4).trans y4
        have s5 := (bat (hS1.out.then hS) w.heap.size hz0 5).trans y5
        have s6 := (bat (hS1.out.then hS) w.heap.size hz0 6).trans y6
        have s7 := (bat (hS1.out.then hS) w.heap.size hz0 7).trans y7
        have t0 := (bat (hB1.out.then hS) _ hlbp _).trans gp
        go_wp2
        go_ret2
        exact ⟨rfl, hB1.out.then hS⟩
      | false =>
        rw [if_neg (by simp)]
        have hhp' := hhp.out
        rw [hp] at hhp'
        clear hp
        go_enter Tryz.func27, Tryz.ntmps27
        go_wp2
        rw [← hW0'.out]
        refine wp_region_bel (by kernel_rfl) (by kernel_rfl) ?_
        simp only [List.toList_toArray]
        repeat' first
          | (refine seq_val (by rfl) (by intro W hS; have s0 := (bat hS w.heap.size hz0 0).trans y0; have s1 := (bat hS w.heap.size hz0 1).trans y1; have s2 := (bat hS w.heap.size hz0 2).trans y2; have s3 := (bat hS w.heap.size hz0 3).trans y3; have s4 := (bat hS w.heap.size hz0 4).trans y4; have s5 := (bat hS w.heap.size hz0 5).trans y5; have s6 := (bat hS w.heap.size hz0 6).trans y6; have s7 := (bat hS w.heap.size hz0 7).trans y7; have t0 := (bat (hB0.out.then hS) _ hlb0 _).trans g0; go_simp; first | done | rfl) ?_; simp only [Act.put, List.setIfInBounds_toArray, List.set_cons_zero, List.set_cons_succ])
          | (refine seq_skip (by rfl) ?_; simp only [Act.put, List.setIfInBounds_toArray, List.set_cons_zero, List.set_cons_succ])
          | (refine seq_ret 47 _ (by rfl) (by intro W hS; have s0 := (bat hS w.heap.size hz0 0).trans y0; have s1 := (bat hS w.heap.size hz0 1).trans y1; have s2 := (bat hS w.heap.size hz0 2).trans y2; have s3 := (bat hS w.heap.size hz0 3).trans y3; have s4 := (bat hS w.heap.size hz0 4).trans y4; have s5 := (bat hS w.heap.size hz0 5).trans y5; have s6 := (bat hS w.heap.size hz0 6).trans y6; have s7 := (bat hS w.heap.size hz0 7).trans y7; have t0 := (bat (hB0.out.then hS) _ hlb0 _).trans g0; go_simp; first | done | rfl) (fun W hS => hin0 W) ?_; simp only [Act.put, List.setIfInBounds_toArray, List.set_cons_zero, List.set_cons_succ])
          | (refine seq_ret 23 _ (by rfl) (by intro W hS; have s0 := (bat hS w.heap.size hz0 0).trans y0; have s1 := (bat hS w.heap.size hz0 1).trans y1; have s2 := (bat hS w.heap.size hz0 2).trans y2; have s3 := (bat hS w.heap.size hz0 3).trans y3; have s4 := (bat hS w.heap.size hz0 4).trans y4; have s5 := (bat hS w.heap.size hz0 5).trans y5; have s6 := (bat hS w.heap.size hz0 6).trans y6; have s7 := (bat hS w.heap.size hz0 7).trans y7; have t0 := (bat (hB0.out.then hS) _ hlb0 _).trans g0; go_simp; first | done | rfl) (fun W hS => hh0' W (hB0.out.then hS)) ?_; simp only [Act.put, List.setIfInBounds_toArray, List.set_cons_zero, List.set_cons_succ])
          | fail
        refine seq_nil (fun W hS => ?_)
        have s0 := (bat hS w.heap.size hz0 0).trans y0
        have s1 := (bat hS w.heap.size hz0 1).trans y1
        have s2 := (bat hS w.heap.size hz0 2).trans y2
        have s3 := (bat hS w.heap.size hz0 3).trans y3
        have s4 := (bat hS w.heap.size hz0 4).trans y4
        have s5 := (bat hS w.heap.size hz0 5).trans y5
        have s6 := (bat hS w.heap.size hz0 6).trans y6
        have s7 := (bat hS w.heap.size hz0 7).trans y7
        have t0 := (bat (hB0.out.then hS) _ hlb0 _).trans g0
        have hS1 := Hd.mk hS
        have hB1 := Hd.mk (hB0.out.then hS)
        clear hS s0 s1 s2 s3 s4 s5 s6 s7 t0
        go_wp2
        refine wp_region_bel (by kernel_rfl) (by kernel_rfl) ?_
        simp only [List.toList_toArray]
        repeat' first
          | (refine seq_val (by rfl) (by intro W hS; have s0 := (bat (hS1.out.then hS) w.heap.size hz0 0).trans y0; have s1 := (bat (hS1.out.then hS) w.heap.size hz0 1).trans y1; have s2 := (bat (hS1.out.then hS) w.heap.size hz0 2).trans y2; have s3 := (bat (hS1.out.then hS) w.heap.size hz0 3).trans y3; have s4 := (bat (hS1.out.then hS) w.heap.size hz0 4).trans y4; have s5 := (bat (hS1.out.then hS) w.heap.size hz0 5).trans y5; have s6 := (bat (hS1.out.then hS) w.heap.size hz0 6).trans y6; have s7 := (bat (hS1.out.then hS) w.heap.size hz0 7).trans y7; have t0 := (bat (hB1.out.then hS) _ hlbp _).trans gp; go_simp; first | done | rfl) ?_; simp only [Act.put, List.setIfInBounds_toArray, List.set_cons_zero, List.set_cons_succ])
          | (refine seq_skip (by rfl) ?_; simp only [Act.put, List.setIfInBounds_toArray, List.set_cons_zero, List.set_cons_succ])
          | (refine seq_ret 23 _ (by rfl) (by intro W hS; have s0 := (bat (hS1.out.then hS) w.heap.size hz0 0).trans y0; have s1 := (bat (hS1.out.then hS) w.heap.size hz0 1).trans y1; have s2 := (bat (hS1.out.then hS) w.heap.size hz0 2).trans y2; have s3 := (bat (hS1.out.then hS) w.heap.size hz0 3).trans y3; have s4 := (bat (hS1.out.then hS) w.heap.size hz0 4).trans y4; have s5 := (bat (hS1.out.then hS) w.heap.size hz0 5).trans y5; have s6 := (bat (hS1.out.then hS) w.heap.size hz0 6).trans y6; have s7 := (bat (hS1.out.then hS) w.heap.size hz0 7).trans y7; have t0 := (bat (hB1.out.then hS) _ hlbp _).trans gp; go_simp; first | done | rfl) (fun W hS => hhp' W (hB1.out.then hS)) ?_; simp only [Act.put, List.setIfInBounds_toArray, List.set_cons_zero, List.set_cons_succ])
          | fail
        refine seq_nil (fun W hS => ?_)
        have s0 := (bat (hS1.out.then hS) w.heap.size hz0 0).trans y0
        have s1 := (bat (hS1.out.then hS) w.heap.size hz0 1).trans y1
        have s2 := (bat (hS1.out.then hS) w.heap.size hz0 2).trans y2
        have s3 := (bat (hS1.out.then hS) w.heap.size hz0 3).trans y3
        have s4 := (bat (hS1.out.then hS) w.heap.size hz0 4).trans y4
        have s5 := (bat (hS1.out.then hS) w.heap.size hz0 5).trans y5
        have s6 := (bat (hS1.out.then hS) w.heap.size hz0 6).trans y6
        have s7 := (bat (hS1.out.then hS) w.heap.size hz0 7).trans y7
        have t0 := (bat (hB1.out.then hS) _ hlbp _).trans gp
        have hS2 := Hd.mk (hS1.out.then hS)
        have hB2 := Hd.mk (hB1.out.then hS)
        clear hS s0 s1 s2 s3 s4 s5 s6 s7 t0 hh0 hhp hh0' hhp' hin0 g0 gp
        go_wp2
        generalize hR : bis f 0 p 2 = R at *
        have hR' := Hd.mk hR
        clear hR
        go_loopw [7, 8, 9] (fun s6 s7 s8 wr => ∃ lo hi c : Nat, s6 = .int .i64 lo ∧ s7 = .int .i64 hi ∧ s8 = .int .i64 c ∧ lo < hi ∧ hi ≤ p ∧ Hd (c + (hi - lo) ≤ 102) ∧ Hd (bis f lo hi c = R) ∧ Hd (Below W0.heap.size W0 wr)) (fun s6 s7 _ _ => (intOf s7).toNat - (intOf s6).toNat)
        case atStart => exact ⟨0, p, 2, rfl, rfl, rfl, by omega, Nat.le_refl _, ⟨by omega⟩, hR', hS2⟩
        case round =>
          clear hR'
          obtain ⟨lo, hi, c, rfl, rfl, rfl, hlh, hhp, hcc, hbs, hbr⟩ := hrel
          have hbw := Hd.mk (hB0.out.then hbr.out)
          by_cases hlt : lo + 1 < hi
          · have hm1 : lo < (lo + hi) / 2 := by omega
            have hm2 : (lo + hi) / 2 < hi := by omega
            have hq : ((lo : Int) + (hi : Int)).tdiv 2 = (((lo + hi) / 2 : Nat) : Int) := by rw [← Int.natCast_add]; exact Int.tdiv_eq_ediv_of_nonneg (by omega)
            have hq2 : ((lo : Int) + (hi : Int)) / 2 = (((lo + hi) / 2 : Nat) : Int) := by omega
            have hbu := bis_up f lo hi c hlt
            have hbd := bis_dn f lo hi c hlt
            generalize hmid : (lo + hi) / 2 = m at *
            have hmid' := Hd.mk hmid
            clear hmid
            obtain ⟨bm, offm, csm, hAm, hlbm, hkm, hatm⟩ := hv0.out.in0 (Below.refl _ _) (m) (by have := hn'.out; omega)
            have hhm := Hd.mk (fun W (hW : Below w.heap.size w W) => hH'.out (m) (by have := hn'.out; omega) W _ hW (KM.mv hkm hW))
            obtain ⟨vmm, rfl, rmm⟩ := hkm
            obtain ⟨Amm, cmm, rfl, -, -, -⟩ := rmm.sm
            have gm := hatm 0 _ rfl
            simp at gm
            clear hatm rmm
            cases hAm
            have im0 : (0 : Int) ≤ (m : Int) := by omega
            have im1 : (m : Int) < (p : Int) + 1 := by omega
            have im2 : m < p + 1 := by omega
            have hcc' := hcc.out
            have hlt' : (hi : Int) - (lo : Int) > 1 := by omega
            cases hm : f m with
            | true =>
              have hhm' := hhm.out
              rw [hm] at hhm'
              have hbs' := Hd.mk ((hbu hm).symm.trans hbs.out)
              clear hm hbu hbd hbs
              go_wp2
              refine wp_region_bel (by kernel_rfl) (by kernel_rfl) ?_
              simp only [List.toList_toArray]
              repeat' first
                | (refine seq_val (by rfl) (by intro W hS; have s0 := (bat (hbr.out.then hS) w.heap.size hz0 0).trans y0; have s1 := (bat (hbr.out.then hS) w.heap.size hz0 1).trans y1; have s2 := (bat (hbr.out.then hS) w.heap.size hz0 2).trans y2; have s3 := (bat (hbr.out.then hS) w.heap.size hz0 3).trans y3; have s4 := (bat (hbr.out.then hS) w.heap.size hz0 4).trans y4; have s5 := (bat (hbr.out.then hS) w.heap.size hz0 5).trans y5; have s6 := (bat (hbr.out.then hS) w.heap.size hz0 6).trans y6; have s7 := (bat (hbr.out.then hS) w.heap.size hz0 7).trans y7; have t0 := (bat (hbw.out.then hS) _ hlbm _).trans gm; go_simp; first | done | rfl) ?_; simp only [Act.put, List.setIfInBounds_toArray, List.set_cons_zero, List.set_cons_succ])
                | (refine seq_skip (by rfl) ?_; simp only [Act.put, List.setIfInBounds_toArray, List.set_cons_zero, List.set_cons_succ])
                | (refine seq_ret 23 _ (by rfl) (by intro W hS; have s0 := (bat (hbr.out.then hS) w.heap.size hz0 0).trans y0; have s1 := (bat (hbr.out.then hS) w.heap.size hz0 1).trans y1; have s2 := (bat (hbr.out.then hS) w.heap.size hz0 2).trans y2; have s3 := (bat (hbr.out.then hS) w.heap.size hz0 3).trans y3; have s4 := (bat (hbr.out.then hS) w.heap.size hz0 4).trans y4; have s5 := (bat (hbr.out.then hS) w.heap.size hz0 5).trans y5; have s6 := (bat (hbr.out.then hS) w.heap.size hz0 6).trans y6; have s7 := (bat (hbr.out.then hS) w.heap.size hz0 7).trans y7; have t0 := (bat (hbw.out.then hS) _ hlbm _).trans gm; go_simp; first | done | rfl) (fun W hS => hhm' W (hbw.out.then hS)) ?_; simp only [Act.put, List.setIfInBounds_toArray, List.set_cons_zero, List.set_cons_succ])
                | fail
              refine seq_nil (fun W hS => ?_)
              have s0 := (bat (hbr.out.then hS) w.heap.size hz0 0).trans y0
              have s1 := (bat (hbr.out.then hS) w.heap.size hz0 1).trans y1
              have s2 := (bat (hbr.out.then hS) w.heap.size hz0 2).trans y2
              have s3 := (bat (hbr.out.then hS) w.heap.size hz0 3).trans y3
              have s4 := (bat (hbr.out.then hS) w.heap.size hz0 4).trans y4
              have s5 := (bat (hbr.out.then hS) w.heap.size hz0 5).trans y5
              have s6 := (bat (hbr.out.then hS) w.heap.size hz0 6).trans y6
              have s7 := (bat (hbr.out.then hS) w.heap.size hz0 7).trans y7
              have t0 := (bat (hbw.out.then hS) _ hlbm _).trans gm
              have hS3 := Hd.mk (hbr.out.then hS)
              clear hS s0 s1 s2 s3 s4 s5 s6 s7 t0
              go_wp2
              go_roundw
              case rel => exact ⟨m, hi, c + 1, by go_num, by go_num, by go_num, hm2, hhp, ⟨by omega⟩, hbs', hS3⟩
              case measure => simp [intOf]; omega
            | false =>
              have hhm' := hhm.out
              rw [hm] at hhm'
              have hbs' := Hd.mk ((hbd hm).symm.trans hbs.out)
              clear hm hbu hbd hbs
              go_wp2
              refine wp_region_bel (by kernel_rfl) (by kernel_rfl) ?_
              simp only [List.toList_toArray]
              repeat' first
                | (refine seq_val (by rfl) (by intro W hS; have s0 := (bat (hbr.out.then hS) w.heap.size hz0 0).trans y0; have s1 := (bat (hbr.out.then hS) w.heap.size hz0 1).trans y1; have s2 := (bat (hbr.out.then hS) w.heap.size hz0 2).trans y2; have s3 := (bat (hbr.out.then hS) w.heap.size hz0 3).trans y3; have s4 := (bat (hbr.out.then hS) w.heap.size hz0 4).trans y4; have s5 := (bat (hbr.out.then hS) w.heap.size hz0 5).trans y5; have s6 := (bat (hbr.out.then hS) w.heap.size hz0 6).trans y6; have s7 := (bat (hbr.out.then hS) w.heap.size hz0 7).trans y7; have t0 := (bat (hbw.out.then hS) _ hlbm _).trans gm; go_simp; first | done | rfl) ?_; simp only [Act.put, List.setIfInBounds_toArray, List.set_cons_zero, List.set_cons_succ])
                | (refine seq_skip (by rfl) ?_; simp only [Act.put, List.setIfInBounds_toArray, List.set_cons_zero, List.set_cons_succ])
                | (refine seq_ret 23 _ (by rfl) (by intro W hS; have s0 := (bat (hbr.out.then hS) w.heap.size hz0 0).trans y0; have s1 := (bat (hbr.out.then hS) w.heap.size hz0 1).trans y1; have s2 := (bat (hbr.out.then hS) w.heap.size hz0 2).trans y2; have s3 := (bat (hbr.out.then hS) w.heap.size hz0 3).trans y3; have s4 := (bat (hbr.out.then hS) w.heap.size hz0 4).trans y4; have s5 := (bat (hbr.out.then hS) w.heap.size hz0 5).trans y5; have s6 := (bat (hbr.out.then hS) w.heap.size hz0 6).trans y6; have s7 := (bat (hbr.out.then hS) w.heap.size hz0 7).trans y7; have t0 := (bat (hbw.out.then hS) _ hlbm _).trans gm; go_simp; first | done | rfl) (fun W hS => hhm' W (hbw.out.then hS)) ?_; simp only [Act.put, List.setIfInBounds_toArray, List.set_cons_zero, List.set_cons_succ])
                | fail
              refine seq_nil (fun W hS => ?_)
              have s0 := (bat (hbr.out.then hS) w.heap.size hz0 0).trans y0
              have s1 := (bat (hbr.out.then hS) w.heap.size hz0 1).trans y1
              have s2 := (bat (hbr.out.then hS) w.heap.size hz0 2).trans y2
              have s3 := (bat (hbr.out.then hS) w.heap.size hz0 3).trans y3
              have s4 := (bat (hbr.out.then hS) w.heap.size hz0 4).trans y4
              have s5 := (bat (hbr.out.then hS) w.heap.size hz0 5).trans y5
              have s6 := (bat (hbr.out.then hS) w.heap.size hz0 6).trans y6
              have s7 := (bat (hbr.out.then hS) w.heap.size hz0 7).trans y7
              have t0 := (bat (hbw.out.then hS) _ hlbm _).trans gm
              have hS3 := Hd.mk (hbr.out.then hS)
              clear hS s0 s1 s2 s3 s4 s5 s6 s7 t0
              go_wp2
              go_roundw
              case rel => exact ⟨lo, m, c + 1, by go_num, by go_num, by go_num, hm1, by omega, ⟨by omega⟩, hbs', hS3⟩
              case measure => simp [intOf]; omega
          · have hnl : ¬ (hi : Int) - (lo : Int) > 1 := by omega
            have hbe := Hd.mk ((bis_end f lo hi c hlt).symm.trans hbs.out)
            go_wp2
            go_ret2
            exact ⟨by rw [← hbe.out]; rfl, hbw.out⟩
end Go.Proofs.YtkcgejbnhpccdaaGreat
